/- The reference's HMAC, by contract. -/
import Derived.Test.YtelhoejoncnccaaDoorE1
namespace Go.Proofs.YtelhoejoncnccaaDoor
open Go Go.RowKit
/-- Three rows of its own, and the result's block. -/
structure Trio (w wr : World) (kv iv ov : Value) (K I O : List By) : Prop where
  fr : Fr none_ w wr
  res : Blk wr w.heap.size 23 (Z32.map bV)
  k : OwB wr kv K
  i : OwB wr iv I
  o : OwB wr ov O
  k0 : ∀ q, inBlk kv q → w.heap.size ≤ q
  i0 : ∀ q, inBlk iv q → w.heap.size ≤ q
  o0 : ∀ q, inBlk ov q → w.heap.size ≤ q
  ki : ∀ q, inBlk kv q → ¬ inBlk iv q
  ko : ∀ q, inBlk kv q → ¬ inBlk ov q
  io : ∀ q, inBlk iv q → ¬ inBlk ov q
section
variable {w wr wx : World} {kv iv ov : Value} {K I O : List By}
theorem Trio.still (t : Trio w wr kv iv ov K I O) (hf : Fr none_ wr wx) : Trio w wx kv iv ov K I O :=
  ⟨t.fr.trans hf (fun _ _ => id), t.res.fr hf id, t.k.fr hf (fun _ _ => id), t.i.fr hf (fun _ _ => id), t.o.fr hf (fun _ _ => id), t.k0, t.i0, t.o0, t.ki, t.ko, t.io⟩
theorem Trio.grewI (t : Trio w wr kv iv ov K I O) {v : Value} {bs : List By} (hf : Fr (inBlk iv) wr wx) (ho : OwB wx v (I ++ bs)) (hk : ∀ q, inBlk v q → inBlk iv q ∨ wr.heap.size ≤ q) : Trio w wx kv v ov K (I ++ bs) O := by
  have hs := t.fr.size
  refine ⟨t.fr.trans hf (fun b hb h => absurd (t.i0 b h) (by omega)), t.res.fr hf (t.i.ne t.res (by decide)), t.k.fr hf t.ki, ho, t.o.fr hf (fun q h1 h2 => t.io q h2 h1), t.k0, fun q h => ?_, t.o0, fun q h h' => ?_, t.ko, fun q h h' => ?_⟩
  · rcases hk q h with h | h
    · exact t.i0 q h
    · omega
  · rcases hk q h' with h' | h'
    · exact t.ki q h h'
    · have := t.k.lt q h; omega
  · rcases hk q h with h | h
    · exact t.io q h h'
    · have := t.o.lt q h'; omega
theorem Trio.grewO (t : Trio w wr kv iv ov K I O) {v : Value} {bs : List By} (hf : Fr (inBlk ov) wr wx) (ho : OwB wx v (O ++ bs)) (hk : ∀ q, inBlk v q → inBlk ov q ∨ wr.heap.size ≤ q) : Trio w wx kv iv v K I (O ++ bs) := by
  have hs := t.fr.size
  refine ⟨t.fr.trans hf (fun b hb h => absurd (t.o0 b h) (by omega)), t.res.fr hf (t.o.ne t.res (by decide)), t.k.fr hf t.ko, t.i.fr hf t.io, ho, t.k0, t.i0, fun q h => ?_, t.ki, fun q h h' => ?_, fun q h h' => ?_⟩
  · rcases hk q h with h | h
    · exact t.o0 q h
    · omega
  · rcases hk q h' with h' | h'
    · exact t.ko q h h'
    · have := t.k.lt q h; omega
  · rcases hk q h' with h' | h'
    · exact t.io q h h'
    · have := t.i.lt q h; omega
theorem Trio.grewK (t : Trio w wr kv (.slice none 0 0) (.slice none 0 0) K [] []) {v : Value} {bs : List By} (hf : Fr (inBlk kv) wr wx) (ho : OwB wx v (K ++ bs)) (hk : ∀ q, inBlk v q → inBlk kv q ∨ wr.heap.size ≤ q) : Trio w wx v (.slice none 0 0) (.slice none 0 0) (K ++ bs) [] [] := by
  have hs := t.fr.size
  refine ⟨t.fr.trans hf (fun b hb h => absurd (t.k0 b h) (by omega)), t.res.fr hf (t.k.ne t.res (by decide)), ho, OwB.nil _, OwB.nil _, fun q h => ?_, fun q h => absurd h nil_not, fun q h => absurd h nil_not, fun q _ h => absurd h nil_not, fun q _ h => absurd h nil_not, fun q _ h => absurd h nil_not⟩
  rcases hk q h with h | h
  · exact t.k0 q h
  · omega
theorem Trio.start (w : World) {W : World} (hf : Fr none_ (w.alloc (.cells (Z32.map bV).toArray 23)) W) {v : Value} (ho : OwB W v K) (hk : ∀ q, inBlk v q → w.heap.size ≤ q) : Trio w W v (.slice none 0 0) (.slice none 0 0) K [] [] :=
  ⟨((Fr.refl none_ w).alloc _).trans hf (fun _ _ => id), (Blk.new w 23 (Z32.map bV)).fr hf id, ho, OwB.nil _, OwB.nil _, hk, fun _ h => absurd h nil_not, fun _ h => absurd h nil_not, fun _ _ h => absurd h nil_not, fun _ _ h => absurd h nil_not, fun _ _ h => absurd h nil_not⟩
end
theorem empty1 (w : World) (o : Obj) : OwB ((w.alloc o).alloc (.cells #[] 5)) (.slice (some ⟨w.heap.size + 1, 0, none⟩) 0 0) [] := by
  have := OwB.empty (w.alloc o)
  rwa [World.size_alloc] at this
theorem own_new1 {w : World} {n c : Nat} : ∀ k, inBlk (.slice (some ⟨w.heap.size + 1, 0, none⟩) n c) k → w.heap.size ≤ k := fun k h => by
  have h : some (w.heap.size + 1) = some k := h
  cases h; omega
theorem refsum_is (D : List By) (A : Option Addr) (n c : Nat) (bs : List By) (w : World) (hD : D = sha bs) (hbs : RdB w A n bs) (hn : n ≤ 140737488355000) :
    Calls Tryd.prog 21 #[.slice A n c] w fun e w' => e = .returned (DA D) ∧ Fr none_ w w' := by
  rw [hD]
  exact refsum_any A n c bs w hbs hn
theorem u8_xor54 (a : By) : bits .xor .u8 (bI a) 54 = bI (a ^^^ 54) := u8_xor a 54
theorem u8_xor92 (a : By) : bits .xor .u8 (bI a) 92 = bI (a ^^^ 92) := u8_xor a 92
attribute [local go_sem] u8_xor54 u8_xor92
theorem litx (w : World) (b : By) : RdB (w.alloc (.cells #[.int .u8 (bI b)] 5)) (some ⟨w.heap.size, 0, none⟩) 1 [b] := RdB.lit w b 5
theorem xor_take {K : List By} {c x : By} {j : Nat} (hx : K[j]? = some x) : (xorB K c).take (j + 1) = (xorB K c).take j ++ [x ^^^ c] := by
  have h : j < (xorB K c).length := by rw [xorB, List.length_map]; exact (List.getElem?_eq_some_iff.1 hx).1
  rw [List.take_succ_eq_append_getElem h]
  congr 2
  have := (List.getElem?_eq_some_iff.1 hx).2
  simp [xorB, this]
set_option maxRecDepth 100000 in
set_option maxHeartbeats 4000000 in
theorem refhmac_any (A : Option Addr) (n c : Nat) (key : List By) (B : Option Addr) (m d : Nat) (bs : List By) (w : World) (hk : RdB w A n key) (hn : n ≤ 140737488355000) (hb : RdB w B m bs) (hm : m ≤ 140737488354000) :
    Calls Tryd.prog 35 #[.slice A n c, .slice B m d] w fun e w' => e = .returned (DA (hmacS key bs)) ∧ Fr none_ w w' := by
  obtain ⟨i5, hi5, hz5, hs5, hb5⟩ := info_parts (P := Tryd.prog) (e := 5) (z := .int .u8 0) (size := 1) (bytes := 1) (by kernel_rfl)
  have hk' := Lib.hid hk
  have hb' := Lib.hid hb
  have hfin : ∀ k', k' = (if 64 < key.length then sha key else key) → hmacS key bs = sha (xorB (pad64 k') 92 ++ sha (xorB (pad64 k') 54 ++ bs)) := fun k' e => by rw [e]; rfl
  have hfin' := Lib.hid hfin
  have hkl := Lib.hid hk.1
  have hbl := Lib.hid hb.1
  clear hk hb hfin
  by_cases h64 : 64 < n
  · obtain ⟨D, hD, lD⟩ : ∃ D, D = sha key ∧ D.length = 32 := ⟨_, rfl, rfl⟩
    have hD' := Lib.hid hD
    have hkey : Hid (D = if 64 < key.length then sha key else key) := by rw [if_pos (by rw [hkl.out]; exact h64)]; exact hD'
    clear hD
    go_enter Tryd.func35, Tryd.ntmps35
    go_wp2_with (at_builtin; refine wpList_append_bytes _ rfl (.tmp 11) (.tmp 12) 22 rfl i5 Tryd.underlying22 hi5 hz5 hs5 hb5 (.slice (some ⟨w.heap.size + 1, 0, none⟩) 0 0) rfl [] (empty1 w _) A n c key rfl ((hk'.out.alloc _).alloc _) (by simp; omega) ?_; intro v1 w1 ho1 hf1 hk1; obtain ⟨A1, c1, hv1, _, _⟩ := ho1.slice; have hl : ([] ++ key).length = n := hkl.out; rw [hl] at hv1; subst hv1)
    have hf1' : Fr none_ (w.alloc (.cells (Z32.map bV).toArray 23)) w1 := ((Fr.refl _ _).alloc (.cells #[] 5)).trans hf1 (fun b hb h => by have h : some (w.heap.size + 1) = some b := h; cases h; simp at hb)
    have hk1' : ∀ q, inBlk (.slice A1 n c1) q → w.heap.size ≤ q := fun q h => by
      rcases hk1 q h with h | h
      · exact own_new1 q h
      · simp at h; omega
    simp only [List.nil_append] at ho1
    have hf1'' := ((Fr.refl none_ w).alloc (.cells (Z32.map bV).toArray 23)).trans hf1' (fun _ _ => id)
    have hR1 := Lib.hid ((Blk.new w 23 (Z32.map bV)).fr hf1' id)
    have hR1l := hR1.out.lt
    have hf1s := Lib.hid hf1''
    clear hf1 hk1 hf1' hf1'' ho1
    go_wp2_with (first
      | (at_builtin; refine wpList_append_bytes _ rfl (.tmp 19) (.tmp 20) 22 rfl i5 Tryd.underlying22 hi5 hz5 hs5 hb5 (.slice (some ⟨W.heap.size, 0, none⟩) 0 0) rfl [] (OwB.empty W) (some ⟨w2.heap.size, 0, none⟩) 32 32 D rfl (hrD.out.alloc _) (by decide) ?_; intro v3 w3 ho3 hf3 hk3; obtain ⟨A3, c3, hv3, _, _⟩ := ho3.slice; have hl3 : ([] ++ D).length = 32 := lD; rw [hl3] at hv3; subst hv3)
      | (refine wpList_store_row rfl 23 (.tmp 6) (.tmp 18) rfl w2.heap.size (D.map bV).toArray rfl rfl 23 Z32A ha2.out (row_info lD) (row_old lD) (DA_all D) ?_; refine wpList_gen (fun W => Fr none_ w1 W ∧ Blk W w2.heap.size 23 (D.map bV)) ⟨made_row_fr hf2, made_row⟩ ?_; rintro W ⟨hfW, hB⟩; have hrD := (by have := RdB.blk hB; rw [lD] at this; exact Lib.hid this : Hid (RdB W (some ⟨w2.heap.size, 0, none⟩) 32 D)))
      | (go_at_call 21; refine (refsum_is D A n c key _ hD'.out (hk'.out.fr hf1s.out (fun _ _ _ => id)) hn).mono ?_; rw [DA]; rintro e w2 ⟨rfl, hf2⟩; have ha2 := Lib.hid (alloc32' w2)))
    have hf3' : Fr none_ w1 w3 := Fr.far (hfW.alloc _) hf3 (fun q h => by have := own_new q h; have := hfW.size; omega)
    have hT0 : Trio w w3 (.slice A3 32 c3) (.slice none 0 0) (.slice none 0 0) D [] [] :=
      ⟨hf1s.out.trans hf3' (fun _ _ => id), hR1.out.fr hf3' id, by simpa using ho3, OwB.nil _, OwB.nil _, fun q h => by
        have := hfW.size
        have := hf1s.out.size
        rcases hk3 q h with h | h
        · have := own_new q h; omega
        · simp at h; omega, fun q h => absurd h nil_not, fun q h => absurd h nil_not, fun q _ h => absurd h nil_not, fun q _ h => absurd h nil_not, fun q _ h => absurd h nil_not⟩
    obtain ⟨kk, hkey, hkk, hT'⟩ : ∃ kk, Hid (kk = if 64 < key.length then sha key else key) ∧ kk.length = 32 ∧ Hid (Trio w w3 (.slice A3 32 c3) (.slice none 0 0) (.slice none 0 0) kk [] []) := ⟨D, hkey, lD, Lib.hid hT0⟩
    have hkL' := Lib.hid hkk
    have hL64 : 32 ≤ 64 := by decide
    clear hkk hT0 hf3' hf3 ho3 hk3 hfW hB hrD hf2 ha2 hR1 hR1l hf1s hD' lD h64
    go_loopw [5] (fun v wr => ∃ (j : Nat) (AK : Option Addr) (cK : Nat), v = .slice AK (32 + j) cK ∧ 32 + j ≤ 64 ∧ Trio w wr v (.slice none 0 0) (.slice none 0 0) (kk ++ List.replicate j 0) [] []) (fun v _ => 64 - lenV v)
    case atStart => exact ⟨0, _, _, rfl, by omega, by simpa using hT'.out⟩
    case round =>
      clear hT'
      obtain ⟨j, AK, cK, rfl, hj, hT⟩ := hrel
      have hT' := Lib.hid hT
      clear hT
      have hLj : (kk ++ List.replicate j (0 : By)).length = 32 + j := by rw [List.length_append, hkL'.out, List.length_replicate]
      have hLj' := Lib.hid hLj
      clear hLj
      by_cases hlt : 32 + j < 64
      · go_wp2_with (at_builtin; refine wpList_append_bytes _ rfl (.tmp 25) (.tmp 26) 22 rfl i5 Tryd.underlying22 hi5 hz5 hs5 hb5 _ rfl (kk ++ List.replicate j 0) (hT'.out.still ((Fr.refl _ _).alloc _)).k _ _ _ [0] rfl (RdB.lit wr 0 5) (by rw [hLj'.out]; omega) ?_; intro v3 w3 ho3 hf3 hk3)
        go_roundw
        case measure =>
          obtain ⟨A3, c3, rfl, _, _⟩ := ho3.slice
          simp only [lenV, List.length_append, hLj'.out, List.length_singleton]
          omega
        case rel =>
          have he3 : kk ++ List.replicate j (0 : By) ++ [0] = kk ++ List.replicate (j + 1) 0 := by rw [List.append_assoc, ← List.replicate_succ']
          have hT3 := (hT'.out.still ((Fr.refl _ _).alloc _)).grewK hf3 ho3 hk3
          obtain ⟨A3, c3, hv3, _, _⟩ := ho3.slice
          rw [he3] at hT3 hv3
          rw [show (kk ++ List.replicate (j + 1) (0 : By)).length = 32 + (j + 1) by rw [List.length_append, hkL'.out, List.length_replicate]] at hv3
          exact ⟨j + 1, A3, c3, hv3, by omega, hT3⟩
      · have hK : kk ++ List.replicate j (0 : By) = pad64 kk := by rw [pad64, show 64 - kk.length = j by rw [hkL'.out]; omega]
        obtain ⟨K, hKd⟩ : ∃ K, K = pad64 kk := ⟨_, rfl⟩
        rw [hK, ← hKd] at hT' hLj'
        have hKl : K.length = 64 := by rw [hKd]; exact pad64_length (by rw [hkL'.out]; omega)
        have hKd' := Lib.hid hKd
        have hKl' := Lib.hid hKl
        have hjl : 32 + j = 64 := by omega
        rw [hjl] at hT'
        clear hK hKd hKl hLj'
        go_wp2
        have hsl : Value.slice AK (32 + j) cK = Value.slice AK 64 cK := by rw [hjl]
        rw [hsl]
        clear hsl hlt hj hjl
        obtain ⟨wo, rfl⟩ : ∃ wo : World, wo = wr := ⟨_, rfl⟩
        go_loopw [7, 8, 9] (fun v u i wr => ∃ (j : Nat) (AI : Option Addr) (cI : Nat) (AO : Option Addr) (cO : Nat), i = .int .i64 j ∧ j ≤ 64 ∧ v = .slice AI j cI ∧ u = .slice AO j cO ∧ Trio w wr (.slice AK 64 cK) v u K ((xorB K 54).take j) ((xorB K 92).take j)) (fun _ _ i _ => 64 - (intOf i).toNat)
        case atStart => exact ⟨0, none, 0, none, 0, rfl, by omega, rfl, rfl, hT'.out⟩
        case round =>
          clear hT'
          obtain ⟨j, AI, cI, AO, cO, rfl, hj, rfl, rfl, hT⟩ := hrel
          have hT' := Lib.hid hT
          clear hT
          by_cases hlt : j < 64
          · obtain ⟨x, hx⟩ : ∃ x, K[j]? = some x := ⟨_, List.getElem?_eq_getElem (by rw [hKl'.out]; exact hlt)⟩
            have hx' := Lib.hid hx
            obtain ⟨gk, rfl, hfk⟩ := hT'.out.k.head (by rw [hKl'.out]; omega)
            have hcj : ∀ W, Fr none_ wr W → W.cell? ⟨gk, j, none⟩ = some (.int .u8 (bI x)) := fun W hf => by
              obtain ⟨g', o', e, hc⟩ := ((hT'.out.still hf).k.rd (A := some ⟨gk, 0, none⟩) (n := 64) (c := cK) rfl).1.2 (by omega)
              cases e
              have := hc j hlt
              rw [Nat.zero_add, List.getD_eq_getElem?_getD, hx] at this
              exact this
            have hc0 := hcj wr (Fr.refl _ _)
            have hcj' := Lib.hid hcj
            have hl1 : ((xorB K 54).take j).length = j := by rw [List.length_take, xorB, List.length_map, hKl'.out]; omega
            have hl2 : ((xorB K 92).take j).length = j := by rw [List.length_take, xorB, List.length_map, hKl'.out]; omega
            have hl1' := Lib.hid hl1
            have hl2' := Lib.hid hl2
            clear hx hcj hl1 hl2 hfk
            go_wp2_with (first
              | (at_builtin; refine wpList_append_bytes _ rfl (.tmp 40) (.tmp 46) 22 rfl i5 Tryd.underlying22 hi5 hz5 hs5 hb5 (.slice AO j cO) rfl ((xorB K 92).take j) (hT3.out.still ((Fr.refl _ _).alloc _)).o _ _ _ [x ^^^ 92] rfl (litx _ _) (by rw [hl2'.out]; omega) ?_; intro v4 w4 ho4 hf4 hk4)
              | (at_builtin; refine wpList_append_bytes _ rfl (.tmp 32) (.tmp 38) 22 rfl i5 Tryd.underlying22 hi5 hz5 hs5 hb5 (.slice AI j cI) rfl ((xorB K 54).take j) (hT'.out.still ((Fr.refl _ _).alloc _)).i _ _ _ [x ^^^ 54] rfl (litx _ _) (by rw [hl1'.out]; omega) ?_; intro v3 w3 ho3 hf3 hk3; have hT3 := Lib.hid ((hT'.out.still ((Fr.refl _ _).alloc _)).grewI hf3 ho3 hk3); have hc3 : w3.cell? ⟨gk, j, none⟩ = some (.int .u8 (bI x)) := (by obtain ⟨g', o', e, hc⟩ := (hT3.out.k.rd (A := some ⟨gk, 0, none⟩) (n := 64) (c := cK) rfl).1.2 (by omega); cases e; have := hc j hlt; rw [Nat.zero_add, List.getD_eq_getElem?_getD, hx'.out] at this; exact this)))
            have hT4 := (hT3.out.still ((Fr.refl _ _).alloc _)).grewO hf4 ho4 hk4
            obtain ⟨A3, c3, hv3, _, _⟩ := hT4.i.slice
            obtain ⟨A4, c4, hv4, _, _⟩ := hT4.o.slice
            rw [← xor_take hx'.out, ← xor_take hx'.out] at hT4
            have hm1 : ((xorB K 54).take j ++ [x ^^^ 54]).length = j + 1 := by rw [List.length_append, hl1'.out]; rfl
            have hm2 : ((xorB K 92).take j ++ [x ^^^ 92]).length = j + 1 := by rw [List.length_append, hl2'.out]; rfl
            rw [hm1] at hv3
            rw [hm2] at hv4
            go_roundw
            case measure => simp [intOf]; omega
            case rel => exact ⟨j + 1, A3, c3, A4, c4, by go_num, by omega, hv3, hv4, hT4⟩
          · obtain rfl : j = 64 := by omega
            have hx1 : (xorB K 54).length = 64 := by rw [xorB, List.length_map]; exact hKl'.out
            have hx2 : (xorB K 92).length = 64 := by rw [xorB, List.length_map]; exact hKl'.out
            rw [List.take_of_length_le (by rw [hx1]; exact Nat.le_refl _), List.take_of_length_le (by rw [hx2]; exact Nat.le_refl _)] at hT'
            obtain ⟨I, hI⟩ : ∃ I, I = xorB K 54 := ⟨_, rfl⟩
            obtain ⟨O, hO⟩ : ∃ O, O = xorB K 92 := ⟨_, rfl⟩
            rw [← hI, ← hO] at hT'
            rw [← hI] at hx1
            rw [← hO] at hx2
            obtain ⟨E, hE, lE⟩ : ∃ E, E = sha (I ++ bs) ∧ E.length = 32 := ⟨_, rfl, rfl⟩
            obtain ⟨F, hF, lF⟩ : ∃ F, F = hmacS key bs ∧ F.length = 32 := ⟨_, rfl, hmacS_len _ _⟩
            have hF2 : F = sha (O ++ E) := by rw [hF, hfin'.out _ hkey.out, hE, hI, hO, hKd'.out]
            have hE' := Lib.hid hE
            have hF' := Lib.hid hF
            have hF2' := Lib.hid hF2
            have hx1' := Lib.hid hx1
            have hx2' := Lib.hid hx2
            clear hE hF hF2 hI hO hx1 hx2 hlt
            go_wp2_with (first
              | (refine wpList_store_row rfl 23 (.tmp 4) (.tmp 57) rfl w.heap.size (F.map bV).toArray rfl rfl 23 (Z32.map bV).toArray hR6.out (row_info lF) (row_old lF) (DA_all F) ?_)
              | (go_at_call 21; refine (refsum_is F _ _ _ _ _ hF2'.out (hT5.out.o.rd rfl).1 (by decide)).mono ?_; rw [DA]; rintro e w6 ⟨rfl, hf6⟩; have hR6 := Lib.hid (hT5.out.res.fr hf6 id))
              | (at_builtin; refine wpList_append_bytes _ rfl (.tmp 53) (.tmp 54) 22 rfl i5 Tryd.underlying22 hi5 hz5 hs5 hb5 (.slice AO 64 cO) rfl O hT4.out.o (some ⟨w4.heap.size, 0, none⟩) 32 32 E rfl hrE.out (by rw [hx2'.out]; decide) ?_; intro v5 w5 ho5 hf5 hk5; have hT5 := Lib.hid (hT4.out.grewO hf5 ho5 hk5); obtain ⟨A5, c5, hv5, _, _⟩ := ho5.slice; rw [List.length_append, hx2'.out, lE] at hv5; subst hv5)
              | (refine wpList_store_row rfl 23 (.tmp 10) (.tmp 52) rfl w4.heap.size (E.map bV).toArray rfl rfl 23 Z32A ha4.out (row_info lE) (row_old lE) (DA_all E) ?_; refine wpList_gen (fun W => Fr none_ w3 W ∧ Blk W w4.heap.size 23 (E.map bV)) ⟨made_row_fr hf4, made_row⟩ ?_; rintro W4 ⟨hfW4, hB4⟩; have hT4 := Lib.hid (hT3.out.still hfW4); have hrE := (by have := RdB.blk hB4; rw [lE] at this; exact Lib.hid this : Hid (RdB W4 (some ⟨w4.heap.size, 0, none⟩) 32 E)))
              | (go_at_call 21; refine (refsum_is E _ _ _ _ _ hE'.out (hT3.out.i.rd rfl).1 (by omega)).mono ?_; rw [DA]; rintro e w4 ⟨rfl, hf4⟩; have ha4 := Lib.hid (alloc32' w4))
              | (at_builtin; refine wpList_append_bytes _ rfl (.tmp 48) (.tmp 49) 22 rfl i5 Tryd.underlying22 hi5 hz5 hs5 hb5 (.slice AI 64 cI) rfl I hT'.out.i B m d bs rfl (hb'.out.fr hT'.out.fr (fun _ _ _ => id)) (by rw [hx1'.out]; omega) ?_; intro v3 w3 ho3 hf3 hk3; have hT3 := Lib.hid (hT'.out.grewI hf3 ho3 hk3); obtain ⟨A3, c3, hv3, _, _⟩ := ho3.slice; rw [List.length_append, hx1'.out, hbl.out] at hv3; subst hv3))
            refine bodyPost_ret (results_cell_row rfl _ _ w.heap.size 23 (F.map bV).toArray (0, 0) _ rfl (setRow_heap _ _ _ _ _ _ hR6.out) Tryd.underlying23 rfl (row_info lF)) rfl ⟨?_, ?_⟩
            · rw [hF'.out]; rfl
            · exact (hT5.out.fr.trans hf6 (fun _ _ => id)).trans (S' := only w.heap.size) ⟨rfl, rfl, rfl, by simp, fun k _ hn => setRow_other _ _ _ _ hn⟩ (fun b hb h => absurd h (by unfold only; omega))
  · have hkey : Hid (key = if 64 < key.length then sha key else key) := by
      rw [if_neg (by rw [hkl.out]; exact h64)]; exact Lib.hid rfl
    go_enter Tryd.func35, Tryd.ntmps35
    go_wp2_with (at_builtin; refine wpList_append_bytes _ rfl (.tmp 11) (.tmp 12) 22 rfl i5 Tryd.underlying22 hi5 hz5 hs5 hb5 (.slice (some ⟨w.heap.size + 1, 0, none⟩) 0 0) rfl [] (empty1 w _) A n c key rfl ((hk'.out.alloc _).alloc _) (by simp; omega) ?_; intro v1 w1 ho1 hf1 hk1; obtain ⟨A1, c1, hv1, _, _⟩ := ho1.slice; have hl : ([] ++ key).length = n := hkl.out; rw [hl] at hv1; subst hv1)
    have hf1' : Fr none_ (w.alloc (.cells (Z32.map bV).toArray 23)) w1 := ((Fr.refl _ _).alloc (.cells #[] 5)).trans hf1 (fun b hb h => by have h : some (w.heap.size + 1) = some b := h; cases h; simp at hb)
    have hk1' : ∀ q, inBlk (.slice A1 n c1) q → w.heap.size ≤ q := fun q h => by
      rcases hk1 q h with h | h
      · exact own_new1 q h
      · simp at h; omega
    simp only [List.nil_append] at ho1
    obtain ⟨kk, hkey, hkL, hT'⟩ : ∃ kk, Hid (kk = if 64 < key.length then sha key else key) ∧ kk.length = n ∧ Hid (Trio w w1 (.slice A1 n c1) (.slice none 0 0) (.slice none 0 0) kk [] []) := ⟨key, hkey, hkl.out, Lib.hid (Trio.start w hf1' ho1 hk1')⟩
    have hL64 : n ≤ 64 := by omega
    have hkL' := Lib.hid hkL
    clear hkL hf1 hk1 hf1' hk1' ho1 h64
    go_loopw [5] (fun v wr => ∃ (j : Nat) (AK : Option Addr) (cK : Nat), v = .slice AK (n + j) cK ∧ n + j ≤ 64 ∧ Trio w wr v (.slice none 0 0) (.slice none 0 0) (kk ++ List.replicate j 0) [] []) (fun v _ => 64 - lenV v)
    case atStart => exact ⟨0, _, _, rfl, by omega, by simpa using hT'.out⟩
    case round =>
      clear hT'
      obtain ⟨j, AK, cK, rfl, hj, hT⟩ := hrel
      have hT' := Lib.hid hT
      clear hT
      have hLj : (kk ++ List.replicate j (0 : By)).length = n + j := by rw [List.length_append, hkL'.out, List.length_replicate]
      have hLj' := Lib.hid hLj
      clear hLj
      by_cases hlt : n + j < 64
      · go_wp2_with (at_builtin; refine wpList_append_bytes _ rfl (.tmp 25) (.tmp 26) 22 rfl i5 Tryd.underlying22 hi5 hz5 hs5 hb5 _ rfl (kk ++ List.replicate j 0) (hT'.out.still ((Fr.refl _ _).alloc _)).k _ _ _ [0] rfl (RdB.lit wr 0 5) (by rw [hLj'.out]; omega) ?_; intro v3 w3 ho3 hf3 hk3)
        go_roundw
        case measure =>
          obtain ⟨A3, c3, rfl, _, _⟩ := ho3.slice
          simp only [lenV, List.length_append, hLj'.out, List.length_singleton]
          omega
        case rel =>
          have he3 : kk ++ List.replicate j (0 : By) ++ [0] = kk ++ List.replicate (j + 1) 0 := by rw [List.append_assoc, ← List.replicate_succ']
          have hT3 := (hT'.out.still ((Fr.refl _ _).alloc _)).grewK hf3 ho3 hk3
          obtain ⟨A3, c3, hv3, _, _⟩ := ho3.slice
          rw [he3] at hT3 hv3
          rw [show (kk ++ List.replicate (j + 1) (0 : By)).length = n + (j + 1) by rw [List.length_append, hkL'.out, List.length_replicate]] at hv3
          exact ⟨j + 1, A3, c3, hv3, by omega, hT3⟩
      · have hK : kk ++ List.replicate j (0 : By) = pad64 kk := by rw [pad64, show 64 - kk.length = j by rw [hkL'.out]; omega]
        obtain ⟨K, hKd⟩ : ∃ K, K = pad64 kk := ⟨_, rfl⟩
        rw [hK, ← hKd] at hT' hLj'
        have hKl : K.length = 64 := by rw [hKd]; exact pad64_length (by rw [hkL'.out]; omega)
        have hKd' := Lib.hid hKd
        have hKl' := Lib.hid hKl
        have hjl : n + j = 64 := by omega
        rw [hjl] at hT'
        clear hK hKd hKl hLj'
        go_wp2
        have hsl : Value.slice AK (n + j) cK = Value.slice AK 64 cK := by rw [hjl]
        rw [hsl]
        clear hsl hlt hj hjl
        obtain ⟨wo, rfl⟩ : ∃ wo : World, wo = wr := ⟨_, rfl⟩
        go_loopw [7, 8, 9] (fun v u i wr => ∃ (j : Nat) (AI : Option Addr) (cI : Nat) (AO : Option Addr) (cO : Nat), i = .int .i64 j ∧ j ≤ 64 ∧ v = .slice AI j cI ∧ u = .slice AO j cO ∧ Trio w wr (.slice AK 64 cK) v u K ((xorB K 54).take j) ((xorB K 92).take j)) (fun _ _ i _ => 64 - (intOf i).toNat)
        case atStart => exact ⟨0, none, 0, none, 0, rfl, by omega, rfl, rfl, hT'.out⟩
        case round =>
          clear hT'
          obtain ⟨j, AI, cI, AO, cO, rfl, hj, rfl, rfl, hT⟩ := hrel
          have hT' := Lib.hid hT
          clear hT
          by_cases hlt : j < 64
          · obtain ⟨x, hx⟩ : ∃ x, K[j]? = some x := ⟨_, List.getElem?_eq_getElem (by rw [hKl'.out]; exact hlt)⟩
            have hx' := Lib.hid hx
            obtain ⟨gk, rfl, hfk⟩ := hT'.out.k.head (by rw [hKl'.out]; omega)
            have hcj : ∀ W, Fr none_ wr W → W.cell? ⟨gk, j, none⟩ = some (.int .u8 (bI x)) := fun W hf => by
              obtain ⟨g', o', e, hc⟩ := ((hT'.out.still hf).k.rd (A := some ⟨gk, 0, none⟩) (n := 64) (c := cK) rfl).1.2 (by omega)
              cases e
              have := hc j hlt
              rw [Nat.zero_add, List.getD_eq_getElem?_getD, hx] at this
              exact this
            have hc0 := hcj wr (Fr.refl _ _)
            have hcj' := Lib.hid hcj
            have hl1 : ((xorB K 54).take j).length = j := by rw [List.length_take, xorB, List.length_map, hKl'.out]; omega
            have hl2 : ((xorB K 92).take j).length = j := by rw [List.length_take, xorB, List.length_map, hKl'.out]; omega
            have hl1' := Lib.hid hl1
            have hl2' := Lib.hid hl2
            clear hx hcj hl1 hl2 hfk
            go_wp2_with (first
              | (at_builtin; refine wpList_append_bytes _ rfl (.tmp 40) (.tmp 46) 22 rfl i5 Tryd.underlying22 hi5 hz5 hs5 hb5 (.slice AO j cO) rfl ((xorB K 92).take j) (hT3.out.still ((Fr.refl _ _).alloc _)).o _ _ _ [x ^^^ 92] rfl (litx _ _) (by rw [hl2'.out]; omega) ?_; intro v4 w4 ho4 hf4 hk4)
              | (at_builtin; refine wpList_append_bytes _ rfl (.tmp 32) (.tmp 38) 22 rfl i5 Tryd.underlying22 hi5 hz5 hs5 hb5 (.slice AI j cI) rfl ((xorB K 54).take j) (hT'.out.still ((Fr.refl _ _).alloc _)).i _ _ _ [x ^^^ 54] rfl (litx _ _) (by rw [hl1'.out]; omega) ?_; intro v3 w3 ho3 hf3 hk3; have hT3 := Lib.hid ((hT'.out.still ((Fr.refl _ _).alloc _)).grewI hf3 ho3 hk3); have hc3 : w3.cell? ⟨gk, j, none⟩ = some (.int .u8 (bI x)) := (by obtain ⟨g', o', e, hc⟩ := (hT3.out.k.rd (A := some ⟨gk, 0, none⟩) (n := 64) (c := cK) rfl).1.2 (by omega); cases e; have := hc j hlt; rw [Nat.zero_add, List.getD_eq_getElem?_getD, hx'.out] at this; exact this)))
            have hT4 := (hT3.out.still ((Fr.refl _ _).alloc _)).grewO hf4 ho4 hk4
            obtain ⟨A3, c3, hv3, _, _⟩ := hT4.i.slice
            obtain ⟨A4, c4, hv4, _, _⟩ := hT4.o.slice
            rw [← xor_take hx'.out, ← xor_take hx'.out] at hT4
            have hm1 : ((xorB K 54).take j ++ [x ^^^ 54]).length = j + 1 := by rw [List.length_append, hl1'.out]; rfl
            have hm2 : ((xorB K 92).take j ++ [x ^^^ 92]).length = j + 1 := by rw [List.length_append, hl2'.out]; rfl
            rw [hm1] at hv3
            rw [hm2] at hv4
            go_roundw
            case measure => simp [intOf]; omega
            case rel => exact ⟨j + 1, A3, c3, A4, c4, by go_num, by omega, hv3, hv4, hT4⟩
          · obtain rfl : j = 64 := by omega
            have hx1 : (xorB K 54).length = 64 := by rw [xorB, List.length_map]; exact hKl'.out
            have hx2 : (xorB K 92).length = 64 := by rw [xorB, List.length_map]; exact hKl'.out
            rw [List.take_of_length_le (by rw [hx1]; exact Nat.le_refl _), List.take_of_length_le (by rw [hx2]; exact Nat.le_refl _)] at hT'
            obtain ⟨I, hI⟩ : ∃ I, I = xorB K 54 := ⟨_, rfl⟩
            obtain ⟨O, hO⟩ : ∃ O, O = xorB K 92 := ⟨_, rfl⟩
            rw [← hI, ← hO] at hT'
            rw [← hI] at hx1
            rw [← hO] at hx2
            obtain ⟨E, hE, lE⟩ : ∃ E, E = sha (I ++ bs) ∧ E.length = 32 := ⟨_, rfl, rfl⟩
            obtain ⟨F, hF, lF⟩ : ∃ F, F = hmacS key bs ∧ F.length = 32 := ⟨_, rfl, hmacS_len _ _⟩
            have hF2 : F = sha (O ++ E) := by rw [hF, hfin'.out _ hkey.out, hE, hI, hO, hKd'.out]
            have hE' := Lib.hid hE
            have hF' := Lib.hid hF
            have hF2' := Lib.hid hF2
            have hx1' := Lib.hid hx1
            have hx2' := Lib.hid hx2
            clear hE hF hF2 hI hO hx1 hx2 hlt
            go_wp2_with (first
              | (refine wpList_store_row rfl 23 (.tmp 4) (.tmp 57) rfl w.heap.size (F.map bV).toArray rfl rfl 23 (Z32.map bV).toArray hR6.out (row_info lF) (row_old lF) (DA_all F) ?_)
              | (go_at_call 21; refine (refsum_is F _ _ _ _ _ hF2'.out (hT5.out.o.rd rfl).1 (by decide)).mono ?_; rw [DA]; rintro e w6 ⟨rfl, hf6⟩; have hR6 := Lib.hid (hT5.out.res.fr hf6 id))
              | (at_builtin; refine wpList_append_bytes _ rfl (.tmp 53) (.tmp 54) 22 rfl i5 Tryd.underlying22 hi5 hz5 hs5 hb5 (.slice AO 64 cO) rfl O hT4.out.o (some ⟨w4.heap.size, 0, none⟩) 32 32 E rfl hrE.out (by rw [hx2'.out]; decide) ?_; intro v5 w5 ho5 hf5 hk5; have hT5 := Lib.hid (hT4.out.grewO hf5 ho5 hk5); obtain ⟨A5, c5, hv5, _, _⟩ := ho5.slice; rw [List.length_append, hx2'.out, lE] at hv5; subst hv5)
              | (refine wpList_store_row rfl 23 (.tmp 10) (.tmp 52) rfl w4.heap.size (E.map bV).toArray rfl rfl 23 Z32A ha4.out (row_info lE) (row_old lE) (DA_all E) ?_; refine wpList_gen (fun W => Fr none_ w3 W ∧ Blk W w4.heap.size 23 (E.map bV)) ⟨made_row_fr hf4, made_row⟩ ?_; rintro W4 ⟨hfW4, hB4⟩; have hT4 := Lib.hid (hT3.out.still hfW4); have hrE := (by have := RdB.blk hB4; rw [lE] at this; exact Lib.hid this : Hid (RdB W4 (some ⟨w4.heap.size, 0, none⟩) 32 E)))
              | (go_at_call 21; refine (refsum_is E _ _ _ _ _ hE'.out (hT3.out.i.rd rfl).1 (by omega)).mono ?_; rw [DA]; rintro e w4 ⟨rfl, hf4⟩; have ha4 := Lib.hid (alloc32' w4))
              | (at_builtin; refine wpList_append_bytes _ rfl (.tmp 48) (.tmp 49) 22 rfl i5 Tryd.underlying22 hi5 hz5 hs5 hb5 (.slice AI 64 cI) rfl I hT'.out.i B m d bs rfl (hb'.out.fr hT'.out.fr (fun _ _ _ => id)) (by rw [hx1'.out]; omega) ?_; intro v3 w3 ho3 hf3 hk3; have hT3 := Lib.hid (hT'.out.grewI hf3 ho3 hk3); obtain ⟨A3, c3, hv3, _, _⟩ := ho3.slice; rw [List.length_append, hx1'.out, hbl.out] at hv3; subst hv3))
            refine bodyPost_ret (results_cell_row rfl _ _ w.heap.size 23 (F.map bV).toArray (0, 0) _ rfl (setRow_heap _ _ _ _ _ _ hR6.out) Tryd.underlying23 rfl (row_info lF)) rfl ⟨?_, ?_⟩
            · rw [hF'.out]; rfl
            · exact (hT5.out.fr.trans hf6 (fun _ _ => id)).trans (S' := only w.heap.size) ⟨rfl, rfl, rfl, by simp, fun k _ hn => setRow_other _ _ _ _ hn⟩ (fun b hb h => absurd h (by unfold only; omega))
end Go.Proofs.YtelhoejoncnccaaDoor
