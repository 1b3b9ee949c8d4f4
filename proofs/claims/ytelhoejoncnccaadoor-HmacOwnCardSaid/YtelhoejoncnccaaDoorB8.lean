/- sha.New, (*Hash).Sum: the digest of all that was taken in. -/
import Derived.Test.YtelhoejoncnccaaDoorB7
import Derived.Deep.CutRange
namespace Go.Proofs.YtelhoejoncnccaaDoor
open Go Go.RowKit

def Z128 : List Value := List.replicate 128 (.int .u8 0)
theorem make128 (w : World) : (Instr.makeSlice 22 (.int .i64 0) (.int .i64 128)).run Tryd.prog w = .ok (.slice (some ⟨w.heap.size, 0, none⟩) 0 128) (w.alloc (.cells Z128.toArray 5)) := by kernel_rfl

theorem own_far {B : Nat} {w : World} {v v' : Value} (hk : ∀ k, inBlk v' k → inBlk v k ∨ w.heap.size ≤ k) (h : ∀ k, inBlk v k → B ≤ k) (hs : B ≤ w.heap.size) : ∀ k, inBlk v' k → B ≤ k :=
  fun k hh => (hk k hh).elim (h k) (fun x => Nat.le_trans hs x)
theorem Fr.far {W1 w w' : World} {v : Value} (h : Fr none_ W1 w) (hf : Fr (inBlk v) w w') (hk : ∀ k, inBlk v k → W1.heap.size ≤ k) : Fr none_ W1 w' :=
  h.trans hf (fun b hb x => absurd (hk b x) (by omega))
theorem be8_length (n : Nat) : (be8 n).length = 8 := by simp [be8]
theorem be8_take (n : Nat) {j : Nat} (h : j < 8) : (be8 n).take (j + 1) = (be8 n).take j ++ [BitVec.ofNat 8 (n / 2 ^ (56 - 8 * j))] := by
  rw [List.take_succ_eq_append_getElem (by rw [be8_length]; exact h)]
  simp [be8]
theorem byte_of (n k : Nat) : ((n : Int) / 2 ^ k) % 256 = bI (BitVec.ofNat 8 (n / 2 ^ k)) := by
  unfold bI
  rw [BitVec.toNat_ofNat, Int.natCast_emod, Int.natCast_ediv, Int.natCast_pow]
  rfl
theorem byte_word (y : Wd) (n : Nat) : uI y / 2 ^ n % 256 = bI ((y >>> n).setWidth 8) := by
  rw [uI_shr, ← wrap_u8_uI, IntKind.wrap_u8]
theorem digest_at (s : St) {i k : Nat} (hi : i < 8) (hk : k < 4) : (digest s)[4 * i + k]? = some (((s.words.getD i 0) >>> (24 - 8 * k)).setWidth 8) := by
  match i, hi, k, hk with
  | 0, _, 0, _ => rfl
  | 0, _, 1, _ => rfl
  | 0, _, 2, _ => rfl
  | 0, _, 3, _ => rfl
  | 1, _, 0, _ => rfl
  | 1, _, 1, _ => rfl
  | 1, _, 2, _ => rfl
  | 1, _, 3, _ => rfl
  | 2, _, 0, _ => rfl
  | 2, _, 1, _ => rfl
  | 2, _, 2, _ => rfl
  | 2, _, 3, _ => rfl
  | 3, _, 0, _ => rfl
  | 3, _, 1, _ => rfl
  | 3, _, 2, _ => rfl
  | 3, _, 3, _ => rfl
  | 4, _, 0, _ => rfl
  | 4, _, 1, _ => rfl
  | 4, _, 2, _ => rfl
  | 4, _, 3, _ => rfl
  | 5, _, 0, _ => rfl
  | 5, _, 1, _ => rfl
  | 5, _, 2, _ => rfl
  | 5, _, 3, _ => rfl
  | 6, _, 0, _ => rfl
  | 6, _, 1, _ => rfl
  | 6, _, 2, _ => rfl
  | 6, _, 3, _ => rfl
  | 7, _, 0, _ => rfl
  | 7, _, 1, _ => rfl
  | 7, _, 2, _ => rfl
  | 7, _, 3, _ => rfl
theorem wp_gen {P : Program} {c : Code} {Q : Exit → Act → World → Prop} {a : Act} {w : World} (R : World → Prop) (h : R w) (k : ∀ w', R w' → c.wp P Q a w') : c.wp P Q a w := k w h
theorem OwB.made (w : World) : OwB (w.alloc (.cells Z128.toArray 5)) (.slice (some ⟨w.heap.size, 0, none⟩) 0 128) [] :=
  OwB.mk (bs := []) (Blk.new w 5 Z128) (by decide) (by decide) rfl rfl
theorem OwB.alloc {w : World} {v : Value} {bs : List By} (h : OwB w v bs) (o : Obj) : OwB (w.alloc o) v bs := h.fr (S := none_) ((Fr.refl _ _).alloc o) (fun _ _ => id)
theorem RdB.alloc {w : World} {A : Option Addr} {n : Nat} {bs : List By} (h : RdB w A n bs) (o : Obj) : RdB (w.alloc o) A n bs := h.fr (S := none_) ((Fr.refl _ _).alloc o) (fun _ _ _ => id)
theorem RdB.lit (w : World) (b : By) (t : TypeId) : RdB (w.alloc (.cells #[bV b] t)) (some ⟨w.heap.size, 0, none⟩) 1 [b] :=
  ⟨rfl, fun _ => ⟨_, _, rfl, fun j hj => by
    obtain rfl : j = 0 := by omega
    exact (Blk.new w t [bV b]).cellAt (i := 0) rfl⟩⟩
def lit128 : Obj := .cells #[.int .u8 128] 5
def made128 : Obj := .cells Z128.toArray 5
theorem lit1 (W : World) : RdB (W.alloc lit128) (some ⟨W.heap.size, 0, none⟩) 1 [128] := RdB.lit W 128 5
theorem lit1a (W : World) (o : Obj) : RdB ((W.alloc lit128).alloc o) (some ⟨W.heap.size, 0, none⟩) 1 [128] := (lit1 W).alloc o
theorem lit2 (W : World) (o : Obj) : RdB ((W.alloc o).alloc lit128) (some ⟨W.heap.size + 1, 0, none⟩) 1 [128] := by
  have := lit1 (W.alloc o); rwa [World.size_alloc] at this
theorem made1 (W : World) : OwB (W.alloc made128) (.slice (some ⟨W.heap.size, 0, none⟩) 0 128) [] := OwB.made W
theorem made1a (W : World) (o : Obj) : OwB ((W.alloc made128).alloc o) (.slice (some ⟨W.heap.size, 0, none⟩) 0 128) [] := (made1 W).alloc o
theorem made2 (W : World) (o : Obj) : OwB ((W.alloc o).alloc made128) (.slice (some ⟨W.heap.size + 1, 0, none⟩) 0 128) [] := by
  have := made1 (W.alloc o); rwa [World.size_alloc] at this
theorem fr1 (W : World) (o : Obj) : Fr none_ W (W.alloc o).drew := ((Fr.refl _ _).alloc o).drew
theorem fr2 (W : World) (o o' : Obj) : Fr none_ W ((W.alloc o).alloc o').drew := (((Fr.refl _ _).alloc o).alloc o').drew
theorem made_fr {W1 Wx w3 : World} {K n c : Nat} (hf : Fr (inBlk (.slice (some ⟨K, 0, none⟩) n c)) Wx w3) (hx : Fr none_ W1 Wx) (hK : W1.heap.size ≤ K) : Fr none_ W1 w3 :=
  hx.trans hf (fun b hb h => by have h : some K = some b := h; cases h; omega)
theorem made_blk {W1 Wx : World} {K n c : Nat} {v : Value} (hk : ∀ k, inBlk v k → inBlk (.slice (some ⟨K, 0, none⟩) n c) k ∨ Wx.heap.size ≤ k) (hx : Fr none_ W1 Wx) (hK : W1.heap.size ≤ K) : ∀ k, inBlk v k → W1.heap.size ≤ k := fun k h => by
  rcases hk k h with h | h
  · have h : some K = some k := h
    cases h; exact hK
  · exact Nat.le_trans hx.size h
theorem made_lit {Wx w3 : World} {K n c L : Nat} {bs : List By} (hf : Fr (inBlk (.slice (some ⟨K, 0, none⟩) n c)) Wx w3) (hl : RdB Wx (some ⟨L, 0, none⟩) 1 bs) (hne : K ≠ L) : RdB w3 (some ⟨L, 0, none⟩) 1 bs :=
  hl.fr hf (fun b o e h => by have h : some K = some b := h; cases h; cases e; exact hne rfl)
set_option maxRecDepth 100000 in
theorem new_any (w : World) : Calls Tryd.prog 22 #[] w fun e w' => e = .returned (.pointer (some ⟨w.heap.size, 0, none⟩)) ∧ w' = w.alloc (.cells (heads st0 (.slice none 0 0) (.int .u64 0)).toArray 86) := by
  go_enter Tryd.func22, Tryd.ntmps22
  go_wp2
  go_ret
  exact ⟨rfl, rfl⟩

set_option maxRecDepth 100000 in
set_option maxHeartbeats 4000000 in
theorem sum_any (hb : Nat) (w : World) (s : St) (rv : Value) (rest : List By) (N : Nat) (hH : Hash w hb s rv rest N) (hr : rest.length = N % 64) (hN : N < 2305843009213693952) (hG : GK w) :
    Calls Tryd.prog 24 #[.pointer (some ⟨hb, 0, none⟩)] w fun e w' => e = .returned (.agg ((digest (fed s (rest ++ padOf N))).map bV).toArray) ∧ Fr none_ w w' := by
  obtain ⟨hH, hown⟩ := hH
  obtain ⟨RA, rc, rfl, hrc, hrm⟩ := hown.slice
  have e0 := hH.cellAt (i := 0) rfl
  have e1 := hH.cellAt (i := 1) rfl
  have e2 := hH.cellAt (i := 2) rfl
  have e3 := hH.cellAt (i := 3) rfl
  have e4 := hH.cellAt (i := 4) rfl
  have e5 := hH.cellAt (i := 5) rfl
  have e6 := hH.cellAt (i := 6) rfl
  have e7 := hH.cellAt (i := 7) rfl
  have e8 := hH.cellAt (i := 8) rfl
  have hhb := hH.lt
  have hr64 : rest.length < 64 := by rw [hr]; omega
  have hr' := Lib.hid hr
  clear hr
  have hmk := make128
  go_enter Tryd.func24, Tryd.ntmps24
  go_wp2
  clear e0 e1 e2 e3 e4 e5 e6 e7 e8
  refine wp_gen (fun W => Fr none_ w W ∧ Blk W w.heap.size 23 (List.replicate 32 (.int .u8 0)) ∧ Blk W (w.heap.size + 1) 86 (heads s (.slice none 0 0) (.int .u64 0))) ⟨((Fr.refl _ _).alloc _).alloc _, (Blk.new _ _ _).alloc _, ?_⟩ ?_
  · have := Blk.new (w.alloc (.cells (List.replicate 32 (.int .u8 0)).toArray 23)) 86 (heads s (.slice none 0 0) (.int .u64 0))
    rw [show (w.alloc (.cells (List.replicate 32 (.int .u8 0)).toArray 23)).heap.size = w.heap.size + 1 by simp] at this
    exact this
  · rintro W1 ⟨hf1, hR1, hB1⟩
    have hH1 := hH.fr hf1 id
    have ho1 := hown.fr hf1 (fun _ _ => id)
    have e8 := hH1.cellAt (i := 8) rfl
    have e8a := fun o => (hH1.alloc o).cellAt (i := 8) rfl
    have e8b := fun o o' => ((hH1.alloc o).alloc o').cellAt (i := 8) rfl
    obtain ⟨i5, hi5, hz5, hs5, hb5⟩ := info_parts (P := Tryd.prog) (e := 5) (z := .int .u8 0) (size := 1) (bytes := 1) (by kernel_rfl)
    have hR0 := (ho1.rd rfl).1
    have hR0' := Lib.hid hR0
    clear hR0
    go_cut [4] from 19 to 26 (fun v wc => ∃ A c, v = .slice A (rest.length + 1) c ∧ Fr none_ W1 wc ∧ OwB wc v (rest ++ [128]) ∧ (∀ k, inBlk v k → W1.heap.size ≤ k))
    case first =>
      go_region_law (first
        | (refine step_append_bytes rfl (.tmp 19) (.tmp 23) 22 rfl i5 Tryd.underlying22 hi5 hz5 hs5 hb5 (.slice (some ⟨_, 0, none⟩) 0 128) rfl [] ?ho RA rest.length rc rest rfl ?hr (by simp; omega) ?_
           case ho => first | exact made1 W1 | exact made1a W1 _ | exact made2 W1 _
           case hr => first | exact (hR0'.out.alloc _) | exact ((hR0'.out.alloc _).alloc _)
           intro A1 c1 w3 ho3 hf3 hk3
           have hF3 := made_fr hf3 (by first | exact fr1 W1 _ | exact fr2 W1 _ _) (by omega)
           have hK3 := made_blk hk3 (by first | exact fr1 W1 _ | exact fr2 W1 _ _) (by omega)
           simp only [List.length_nil, Nat.zero_add, List.nil_append] at ho3 hK3
           clear hk3)
        | (refine step_append_bytes rfl (.tmp 24) (.tmp 25) 22 rfl i5 Tryd.underlying22 hi5 hz5 hs5 hb5 (.slice _ rest.length _) rfl rest ?ho2 _ _ _ [128] rfl ?hr2 (by simp; omega) ?_
           case ho2 => first | exact ho3 | exact ho3.alloc _
           case hr2 => first | exact lit1 _ | (refine made_lit hf3 ?_ (by omega); first | exact lit2 W1 _ | exact lit1a W1 _)
           intro A2 c2 w4 ho4 hf4 hk4
           have hF4 : Fr none_ W1 w4 := by
             first
               | exact hF3.trans hf4 (fun b hb h => absurd (hK3 b h) (by omega))
               | exact (hF3.alloc _).trans hf4 (fun b hb h => absurd (hK3 b h) (by omega))
           have hK4 : ∀ k, inBlk (.slice A2 (rest.length + 1) c2) k → W1.heap.size ≤ k := fun k hk => by
             rcases hk4 k hk with h | h
             · exact hK3 k h
             · have := hF3.size
               first | omega | (simp at h; omega)
           clear hf4 hk4 hf3))
      all_goals
        go_wp2_with fail
        go_meet
        case rel => exact ⟨_, _, rfl, hF4, ho4, hK4⟩
    case rest =>
      obtain ⟨A0, c0, rfl, hfc, hoc, hkc⟩ := hcut
      clear e8 e8a e8b hmk
      have hz : zeros N = (119 - rest.length) % 64 := by rw [hr'.out]; rfl
      have hz' := Lib.hid hz
      have hzl : zeros N ≤ (119 - rest.length) % 64 := by omega
      have hzg : (119 - rest.length) % 64 ≤ zeros N := by omega
      clear hz
      go_wp2
      go_loopw [4] (fun v wr => ∃ (k : Nat) (A : Option Addr) (c : Nat), k ≤ zeros N ∧ v = .slice A (rest.length + 1 + k) c ∧ Fr none_ W1 wr ∧ OwB wr v (rest ++ [128] ++ List.replicate k 0) ∧ (∀ k, inBlk v k → W1.heap.size ≤ k)) (fun v _ => zeros N + rest.length + 1 - lenV v)
      case atStart => exact ⟨0, A0, c0, Nat.zero_le _, rfl, hfc, by simpa using hoc, hkc⟩
      case round =>
        clear hfc hoc hkc
        obtain ⟨k, A, c, hk, rfl, hfr, hor, hkr⟩ := hrel
        have hkr' := Lib.hid hkr
        clear hkr
        by_cases hlt : k < zeros N
        · have h56 : ¬ (rest.length + 1 + k) % 64 = 56 := by omega
          have hL : (rest ++ [128] ++ List.replicate k (0 : By)).length = rest.length + 1 + k := by simp; omega
          have hL' := Lib.hid hL
          clear hL
          go_wp2_with (at_builtin; refine wpList_append_bytes _ rfl (.tmp 31) (.tmp 32) 22 rfl i5 Tryd.underlying22 hi5 hz5 hs5 hb5 _ rfl (rest ++ [128] ++ List.replicate k 0) (hor.alloc _) _ _ _ [0] rfl (RdB.lit wr 0 5) (by rw [hL'.out]; omega) ?_; intro v3 w3 ho3 hf3 hk3)
          go_roundw
          case measure =>
            obtain ⟨A3, c3, rfl, _, _⟩ := ho3.slice
            simp only [lenV, List.length_append, hL'.out, List.length_singleton]
            omega
          case rel =>
            obtain ⟨A3, c3, hv3, _, _⟩ := ho3.slice
            have hl3 : (rest ++ [128] ++ List.replicate k (0 : By) ++ [0]).length = rest.length + 1 + (k + 1) := by
              rw [List.length_append, hL'.out]; rfl
            rw [hl3] at hv3
            have he3 : rest ++ [128] ++ List.replicate k (0 : By) ++ [0] = rest ++ [128] ++ List.replicate (k + 1) 0 := by
              rw [List.append_assoc _ (List.replicate k (0 : By)), ← List.replicate_succ']
            rw [he3] at ho3
            exact ⟨k + 1, A3, c3, by omega, hv3, Fr.far (hfr.alloc _) hf3 hkr'.out, ho3, own_far hk3 hkr'.out (by have := hfr.size; simp; omega)⟩
        · have h56 : (rest.length + 1 + k) % 64 = 56 := by omega
          have hkz : k = zeros N := by omega
          have h56l : (rest.length + 1 + k) % 64 ≤ 56 := by omega
          have h56g : 56 ≤ (rest.length + 1 + k) % 64 := by omega
          have hkz' := Lib.hid hkz
          have h56' := Lib.hid h56
          have hne : (((rest.length : Int) + 1 + (k : Int)) % 64 != 56) = false := by
            rw [bne_eq_false_iff_eq]; omega
          clear hkz h56
          go_wp2
          clear h56l h56g hne
          have hpre : (rest ++ [128] ++ List.replicate k (0 : By)).length = rest.length + 1 + k := by simp; omega
          obtain ⟨pre, hpr⟩ : ∃ pre : List By, pre = rest ++ [128] ++ List.replicate k (0 : By) := ⟨_, rfl⟩
          rw [← hpr] at hor hpre
          have hpr' := Lib.hid hpr
          have hpre' := Lib.hid hpre
          clear hpr hpre
          obtain ⟨L0, hL0⟩ : ∃ L0, L0 = rest.length + 1 + k := ⟨_, rfl⟩
          have hL0' := Lib.hid hL0
          have hL0b : L0 < 192 := by omega
          clear hL0
          go_loopw [34, 4] (fun i v wr => ∃ (j : Nat) (A : Option Addr) (c : Nat), j ≤ 8 ∧ i = .int .i64 j ∧ v = .slice A (L0 + j) c ∧ Fr none_ W1 wr ∧ OwB wr v (pre ++ (be8 (8 * N)).take j) ∧ (∀ k, inBlk v k → W1.heap.size ≤ k)) (fun i _ _ => 8 - (intOf i).toNat)
          case atStart => exact ⟨0, A, c, Nat.zero_le _, rfl, by rw [hL0'.out]; rfl, hfr, by simpa using hor, hkr'.out⟩
          case round =>
            clear hfr hor hkr'
            obtain ⟨j, A, c, hj, rfl, rfl, hfr, hor, hkr⟩ := hrel
            have hkr' := Lib.hid hkr
            clear hkr
            have hLj : (pre ++ (be8 (8 * N)).take j).length = L0 + j := by
              rw [List.length_append, hpre'.out, List.length_take, be8_length, hL0'.out]; omega
            have hLj' := Lib.hid hLj
            clear hLj
            by_cases hlt : j < 8
            · have e9 := (hH1.fr hfr id).cellAt (i := 9) rfl
              go_wp2_with (at_builtin; refine wpList_append_bytes _ rfl (.tmp 37) (.tmp 48) 22 rfl i5 Tryd.underlying22 hi5 hz5 hs5 hb5 _ rfl (pre ++ (be8 (8 * N)).take j) (hor.alloc _) _ _ _ [BitVec.ofNat 8 (8 * N / 2 ^ (56 - 8 * j))] rfl ?hlit (by rw [hLj'.out]; omega) ?_)
              case hlit =>
                have := RdB.lit wr (BitVec.ofNat 8 (8 * N / 2 ^ (56 - 8 * j))) 5
                unfold bV at this
                rw [← byte_of] at this
                simpa using this
              intro v3 w3 ho3 hf3 hk3
              go_wp2
              go_roundw
              case measure => simp [intOf]; omega
              case rel =>
                have ho4 : OwB w3 v3 (pre ++ (be8 (8 * N)).take (j + 1)) := by
                  rw [be8_take _ hlt]
                  simpa [List.append_assoc] using ho3
                obtain ⟨A3, c3, hv3, _, _⟩ := ho4.slice
                have hl3 : (pre ++ (be8 (8 * N)).take (j + 1)).length = L0 + (j + 1) := by
                  rw [List.length_append, hpre'.out, List.length_take, be8_length, hL0'.out]; omega
                rw [hl3] at hv3
                have hf4 := Fr.far (hfr.alloc _) hf3 hkr'.out
                have hk4 : ∀ k, inBlk v3 k → W1.heap.size ≤ k := fun k hk => (hk3 k hk).elim (hkr'.out k) (fun h => by have := hfr.size; first | omega | (simp at h; omega))
                exact ⟨j + 1, A3, c3, by omega, by go_num, hv3, hf4, ho4, hk4⟩
            · obtain rfl : j = 8 := by omega
              clear hlt
              have hall : pre ++ (be8 (8 * N)).take 8 = rest ++ padOf N := by
                rw [List.take_of_length_le (by rw [be8_length]; exact Nat.le_refl _), hpr'.out, hkz'.out]
                simp [padOf]
              have hall' := Lib.hid hall
              clear hall
              have hlt2 := hB1.lt
              have hGw := (hG.fr hf1 id).fr hfr id
              have hBw := hB1.fr hfr id
              have hRw := hR1.fr hfr id
              have hrd := hor.rd rfl
              rw [hall'.out] at hor hrd
              have hrd' := Lib.hid hrd
              have hGw' := Lib.hid hGw
              clear hrd hGw
              go_wp2_with fail
              refine (write_any (w.heap.size + 1) A _ c (rest ++ padOf N) [] wr s (.slice none 0 0) 0 ⟨hBw, OwB.nil _⟩ (by decide) hGw'.out hrd'.out.1 ?_ ?_ ?_ ?_ ?_).mono ?_
              · have := hor.slice
                obtain ⟨A3, c3, hv3, h1, _⟩ := this
                have hl := hrd'.out.1.1
                rw [hl] at hv3
                injection hv3 with _ _ hc3
                omega
              · omega
              · intro _ b o e
                have h1 := hkr'.out b (hrd'.out.2 b o e)
                refine ⟨by omega, fun h => ?_⟩
                cases h
              · intro h
                rcases h with h | h
                · cases h
                · cases h
              · omega
              · rintro e w5 ⟨rfl, rv5, hf5, ⟨hB5, ho5⟩, hk5⟩
                have hfx : Fr none_ w w5 := (hf1.trans hfr (fun _ _ => id)).trans hf5 (fun b hb h => by
                  rcases h with h | h
                  · omega
                  · cases h)
                have hR5 := hRw.fr hf5 (fun h => by
                  rcases h with h | h
                  · omega
                  · cases h)
                obtain ⟨x, hx⟩ : ∃ x, x = fed s ([] ++ (rest ++ padOf N)) := ⟨_, rfl⟩
                rw [← hx] at hB5
                have hx' := Lib.hid hx
                clear hx
                have e0 := fun o => (hB5.alloc o).cellAt (i := 0) rfl
                have e1 := fun o => (hB5.alloc o).cellAt (i := 1) rfl
                have e2 := fun o => (hB5.alloc o).cellAt (i := 2) rfl
                have e3 := fun o => (hB5.alloc o).cellAt (i := 3) rfl
                have e4 := fun o => (hB5.alloc o).cellAt (i := 4) rfl
                have e5 := fun o => (hB5.alloc o).cellAt (i := 5) rfl
                have e6 := fun o => (hB5.alloc o).cellAt (i := 6) rfl
                have e7 := fun o => (hB5.alloc o).cellAt (i := 7) rfl
                go_wp2
                clear e0 e1 e2 e3 e4 e5 e6 e7
                obtain ⟨i77, hi77, hz77, hs77, hb77⟩ := info_parts (P := Tryd.prog) (e := 77) (z := .int .u32 0) (size := 1) (bytes := 4) (by kernel_rfl)
                go_loopw [58] (fun v wr => ∃ i : Nat, i ≤ 8 ∧ v = .int .i64 i ∧ Fr none_ w5 wr ∧ ∃ l : List By, l.length = 32 ∧ (∀ q, q < 4 * i → l[q]? = (digest x)[q]?) ∧ Blk wr w5.heap.size 23 (l.map bV)) (fun v _ => 8 - (intOf v).toNat)
                case atStart => exact ⟨0, by omega, rfl, (Fr.refl _ _).alloc _, List.replicate 32 0, rfl, fun q hq => by omega, Blk.new _ _ _⟩
                case round =>
                  obtain ⟨i, hi, rfl, hfo, l, hl, hlq, hO⟩ := hrel
                  have hlq' := Lib.hid hlq
                  clear hlq
                  by_cases hlt : i < 8
                  · have hix : ∀ W : World, (Instr.index 78 (.agg #[.int .u32 (uI x.a), .int .u32 (uI x.b), .int .u32 (uI x.c), .int .u32 (uI x.d), .int .u32 (uI x.e), .int .u32 (uI x.f), .int .u32 (uI x.g), .int .u32 (uI x.h)]) (.int .i64 (i : Int))).run Tryd.prog W = .ok (.int .u32 (uI (x.words.getD i 0))) W :=
                      fun W => run_index_agg (P := Tryd.prog) W 78 77 8 i77 Tryd.underlying78 hi77 hs77 (by kernel_rfl) (eight x).toArray .i64 (i : Int) (by omega) (by omega) _ (by have := eight_at x hlt; simpa using this)
                    obtain ⟨y, hy⟩ : ∃ y, y = x.words.getD i 0 := ⟨_, rfl⟩
                    rw [← hy] at hix
                    have hy' := Lib.hid hy
                    clear hy
                    go_wp2
                    obtain ⟨wq, hwq⟩ : ∃ wq : World, wq = wr := ⟨_, rfl⟩
                    subst hwq
                    go_loopw [62] (fun v wr => ∃ k : Nat, k ≤ 4 ∧ v = .int .i64 k ∧ Fr none_ w5 wr ∧ ∃ l : List By, l.length = 32 ∧ (∀ q, q < 4 * i + k → l[q]? = (digest x)[q]?) ∧ Blk wr w5.heap.size 23 (l.map bV)) (fun v _ => 4 - (intOf v).toNat)
                    case atStart => exact ⟨0, by omega, rfl, hfo, l, hl, hlq'.out, hO⟩
                    case round =>
                      clear hlq' hl hO hfo
                      obtain ⟨k2, hk2, rfl, hfo, l, hl, hlq, hO⟩ := hrel
                      have hlq' := Lib.hid hlq
                      clear hlq
                      by_cases hlt2 : k2 < 4
                      · have ck : (wr.cell? ⟨w5.heap.size, 4 * i + k2, none⟩).isSome := by rw [hO.cell]; simp; omega
                        obtain ⟨v, ck⟩ := Option.isSome_iff_exists.1 ck
                        have fk := hO.free (4 * i + k2)
                        go_wp2
                        go_roundw
                        case measure => simp [intOf]; omega
                        case rel =>
                          rw [byte_word]
                          refine ⟨k2 + 1, by omega, by go_num, hfo.setCell (fun h => absurd h (by simp)) _, l.set (4 * i + k2) ((y >>> (24 - 8 * k2)).setWidth 8), by simpa using hl, fun q hq => ?_, ?_⟩
                          · rw [List.getElem?_set]
                            split
                            · rename_i e
                              subst e
                              rw [digest_at x hlt hlt2, ← hy'.out]
                              simp; omega
                            · exact hlq'.out q (by omega)
                          · rw [List.map_set]
                            exact hO.store _ _
                      · obtain rfl : k2 = 4 := by omega
                        clear hlt2
                        go_wp2
                        go_roundw
                        case measure => simp [intOf]; omega
                        case rel => exact ⟨i + 1, by omega, by go_num, hfo, l, hl, fun q hq => hlq'.out q (by omega), hO⟩
                  · obtain rfl : i = 8 := by omega
                    clear hlt
                    have hle : l = digest x := by
                      apply List.ext_getElem?
                      intro q
                      rcases Nat.lt_or_ge q 32 with h | h
                      · exact hlq'.out q (by omega)
                      · rw [List.getElem?_eq_none (by omega), List.getElem?_eq_none (by exact h)]
                    subst hle
                    have hR6 := (hR5.fr hfo id)
                    go_wp2_with (first
                      | (refine wpList_load_row rfl 23 (.tmp 6) rfl w5.heap.size rfl 23 ((digest x).map bV).toArray (0, 0) _ hO Tryd.underlying23 rfl (by kernel_rfl) ?_)
                      | (refine wpList_store_row rfl 23 (.tmp 2) (.tmp 78) rfl w.heap.size ((digest x).map bV).toArray rfl rfl 23 _ hR6 (by kernel_rfl) (by kernel_rfl) (by kernel_rfl) ?_))
                    refine bodyPost_ret (results_cell_row rfl _ _ w.heap.size 23 ((digest x).map bV).toArray (0, 0) _ rfl (setRow_heap _ _ _ _ _ _ hR6) Tryd.underlying23 rfl (by kernel_rfl)) rfl ⟨?_, ?_⟩
                    · rw [hx'.out]; rfl
                    · exact (hfx.trans hfo (fun _ _ => id)).trans (S' := only w.heap.size) ⟨rfl, rfl, rfl, by simp, fun k _ hn => setRow_other _ _ _ _ hn⟩ (fun b hb h => absurd h (by unfold only; omega))
end Go.Proofs.YtelhoejoncnccaaDoor
