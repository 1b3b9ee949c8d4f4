/- Bytes with bytes; hmac.Right, by contract. -/
import Derived.Test.YtelhoejoncnccaaDoorE4
import Derived.Deep.QuietTactic
import Derived.BigQuiet
namespace Go.Proofs.YtelhoejoncnccaaDoor
open Go Go.RowKit
attribute [local go_sem] u8_xor u8_or
def xorL (a b : List By) : List By := List.zipWith (· ^^^ ·) a b
def orL (x : By) (l : List By) : By := l.foldl (· ||| ·) x
theorem or_zero {a b : By} : a ||| b = 0 ↔ a = 0 ∧ b = 0 := by
  constructor
  · intro h
    have h1 : ∀ i, (a ||| b).getLsbD i = false := fun i => by rw [h]; simp
    constructor
    · apply BitVec.eq_of_getLsbD_eq
      intro i _
      have := h1 i
      rw [BitVec.getLsbD_or, Bool.or_eq_false_iff] at this
      rw [this.1]; simp
    · apply BitVec.eq_of_getLsbD_eq
      intro i _
      have := h1 i
      rw [BitVec.getLsbD_or, Bool.or_eq_false_iff] at this
      rw [this.2]; simp
  · rintro ⟨rfl, rfl⟩; rfl
theorem xor_zero {a b : By} : a ^^^ b = 0 ↔ a = b := by
  constructor
  · intro h
    have : a ^^^ b ^^^ b = 0 ^^^ b := by rw [h]
    rw [BitVec.xor_assoc, BitVec.xor_self, BitVec.xor_zero] at this
    simpa using this
  · rintro rfl; exact BitVec.xor_self
theorem orL_zero (l : List By) : ∀ x, orL x l = 0 ↔ x = 0 ∧ ∀ y ∈ l, y = 0 := by
  induction l with
  | nil => intro x; simp [orL]
  | cons a l ih =>
    intro x
    have : orL x (a :: l) = orL (x ||| a) l := rfl
    rw [this, ih, or_zero]
    simp [and_assoc]
theorem xorL_zero : ∀ (a b : List By), a.length = b.length → ((∀ y ∈ xorL a b, y = 0) ↔ a = b) := by
  intro a
  induction a with
  | nil => intro b h; simp [xorL, List.eq_nil_of_length_eq_zero h.symm]
  | cons x a ih =>
    intro b h
    cases b with
    | nil => simp at h
    | cons y b =>
      have h' : a.length = b.length := by simpa using h
      have := ih b h'
      unfold xorL at *
      simp only [List.zipWith_cons_cons, List.mem_cons, forall_eq_or_imp, List.cons.injEq]
      rw [this, xor_zero]
theorem right_bool (a b : List By) (h : a.length = b.length) : (orL 0 (xorL a b) == 0) = (a == b) := by
  rw [Bool.eq_iff_iff, beq_iff_eq, beq_iff_eq, orL_zero, ← xorL_zero a b h]
  simp
set_option maxRecDepth 100000 in
set_option maxHeartbeats 1000000 in
/-- The closure: the bytes at i, one with the other. -/
theorem xor1_any (ka kb : Nat) (A : Option Addr) (n c : Nat) (B : Option Addr) (m d : Nat) (xs bs : List By) (i : Nat) (w : World) (ha : w.cell? ⟨ka, 0, none⟩ = some (.slice A n c)) (hb : w.cell? ⟨kb, 0, none⟩ = some (.slice B m d))
    (h1 : RdB w A n xs) (h2 : RdB w B m bs) (hi : i < n) (hj : i < m) (hn : n ≤ 9223372036854775807) (hm : m ≤ 9223372036854775807) :
    Calls Tryd.prog 97 #[.int .i64 i, .pointer (some ⟨ka, 0, none⟩), .pointer (some ⟨kb, 0, none⟩)] w fun e w' => e = .returned (.int .u8 (bI (xs.getD i 0 ^^^ bs.getD i 0))) ∧ Fr none_ w w' := by
  obtain ⟨g, o, rfl, hc⟩ := h1.2 (by omega)
  obtain ⟨g', o', rfl, hc'⟩ := h2.2 (by omega)
  have c1 := hc i hi
  have c2 := hc' i hj
  clear hc hc' h1 h2
  go_enter Tryd.func97, Tryd.ntmps97
  go_wp2
  go_quiet (fail)
  go_wp2
  go_ret
  exact ⟨rfl, (Fr.refl _ _).drewN _⟩
def z16 : List By := List.replicate 16 0
theorem make16 (w : World) : (Instr.makeSlice 22 (.int .i64 16) (.int .i64 16)).run Tryd.prog w = .ok (.slice (some ⟨w.heap.size, 0, none⟩) 16 16) (w.alloc (.cells (z16.map bV).toArray 5)) := by kernel_rfl
set_option maxRecDepth 100000 in
set_option maxHeartbeats 1000000 in
theorem each_any (ka kb : Nat) (A : Option Addr) (c : Nat) (B : Option Addr) (d : Nat) (xs bs : List By) (w : World) (ha : w.cell? ⟨ka, 0, none⟩ = some (.slice A 16 c)) (hb : w.cell? ⟨kb, 0, none⟩ = some (.slice B 16 d))
    (h1 : RdB w A 16 xs) (h2 : RdB w B 16 bs) :
    Calls Tryd.prog 96 #[.int .i64 16, .func (.func 97) #[] #[.pointer (some ⟨ka, 0, none⟩), .pointer (some ⟨kb, 0, none⟩)]] w fun e w' => ∃ v, e = .returned v ∧ Gives w v (xorL xs bs) w' := by
  have ha' := Lib.hid ha
  have hb' := Lib.hid hb
  have h1' := Lib.hid h1
  have h2' := Lib.hid h2
  have hmk := make16
  clear ha hb h1 h2
  go_enter Tryd.func96, Tryd.ntmps96
  go_wp2
  go_loopw [11] (fun v wr => ∃ (i : Nat) (l : List By), v = .int .i64 i ∧ i ≤ 16 ∧ l.length = 16 ∧ (∀ q, q < i → l[q]? = (xorL xs bs)[q]?) ∧ Fr none_ w wr ∧ Blk wr w.heap.size 5 (l.map bV)) (fun v _ => 16 - (intOf v).toNat)
  case atStart => exact ⟨0, z16, rfl, by omega, rfl, fun q hq => by omega, (Fr.refl _ _).alloc _, Blk.new w 5 (z16.map bV)⟩
  case round =>
    obtain ⟨i, l, rfl, hi, hl, hlq, hfr, hB⟩ := hrel
    have hl' := Lib.hid hl
    have hlq' := Lib.hid hlq
    have hfr' := Lib.hid hfr
    have hB' := Lib.hid hB
    clear hl hlq hmk hfr hB
    by_cases hlt : i < 16
    · go_wp2_with fail
      refine (xor1_any ka kb A 16 c B 16 d xs bs i _ ((hfr'.out.cell (p := ⟨ka, 0, none⟩) (block_lt_of_cell ha'.out) id).trans ha'.out) ((hfr'.out.cell (p := ⟨kb, 0, none⟩) (block_lt_of_cell hb'.out) id).trans hb'.out) (h1'.out.fr hfr'.out (fun _ _ _ => id)) (h2'.out.fr hfr'.out (fun _ _ _ => id)) hlt hlt (by decide) (by decide)).mono ?_
      rintro e w2 ⟨rfl, hf2⟩
      have hB2 := hB'.out.fr hf2 id
      obtain ⟨x, hx⟩ : ∃ x, x = xs.getD i 0 ^^^ bs.getD i 0 := ⟨_, rfl⟩
      rw [← hx]
      have hx' := Lib.hid hx
      clear hx
      have ck : (w2.cell? ⟨w.heap.size, i, none⟩).isSome := by rw [hB2.cell]; simp [hl'.out]; omega
      obtain ⟨v, ck⟩ := Option.isSome_iff_exists.1 ck
      have fk := hB2.free i
      go_wp2
      go_roundw
      case measure => simp [intOf]; omega
      case rel =>
        refine ⟨i + 1, l.set i x, by go_num, by omega, by simpa using hl'.out, fun q hq => ?_, (hfr'.out.trans hf2 (fun _ _ => id)).setCell (p := ⟨w.heap.size, i, none⟩) (fun h => absurd h (by simp)) _, ?_⟩
        · rw [List.getElem?_set]
          split
          · rename_i e
            subst e
            have e1 := h1'.out.1
            have e2 := h2'.out.1
            rw [if_pos (by rw [hl'.out]; exact hlt), hx'.out, xorL, List.getElem?_zipWith, List.getElem?_eq_getElem (by omega), List.getElem?_eq_getElem (by omega), List.getD_eq_getElem?_getD, List.getD_eq_getElem?_getD, List.getElem?_eq_getElem (by omega), List.getElem?_eq_getElem (by omega)]
            rfl
          · exact hlq'.out q (by omega)
        · rw [List.map_set]
          exact hB2.store i _
    · obtain rfl : i = 16 := by omega
      have hxl : (xorL xs bs).length = 16 := by rw [xorL, List.length_zipWith, h1'.out.1, h2'.out.1]; rfl
      obtain rfl : l = xorL xs bs := all_known hl'.out hxl hlq'.out
      go_wp2
      go_ret
      refine ⟨_, rfl, some ⟨w.heap.size, 0, none⟩, 16, by rw [hxl]; rfl, ?_, hfr'.out, own_new⟩
      have := OwB.mk (bs := xorL xs bs) (cap := 16) hB'.out (by rw [hxl]; exact Nat.le_refl _) (by decide) (by rw [List.length_map]; exact hxl) (by rw [List.take_of_length_le (by rw [List.length_map]; exact Nat.le_refl _)])
      rwa [hxl] at this
set_option maxRecDepth 100000 in
set_option maxHeartbeats 1000000 in
theorem xor_no (A : Option Addr) (n c : Nat) (B : Option Addr) (m d : Nat) (w : World) (hne : n ≠ m) (_hn : n ≤ 9223372036854775807) (_hm : m ≤ 9223372036854775807) :
    Calls Tryd.prog 77 #[.slice A n c, .slice B m d] w fun e w' => e = .returned (.tuple #[.slice none 0 0, .int .i64 1]) ∧ Fr none_ w w' := by
  have hb : ((n : Int) != (m : Int)) = true := by rw [bne_iff_ne]; omega
  go_enter Tryd.func77, Tryd.ntmps77
  go_wp2
  go_ret2
  exact ⟨rfl, ((Fr.refl _ _).alloc _).alloc _⟩
set_option maxRecDepth 100000 in
set_option maxHeartbeats 1000000 in
theorem xor_yes (A : Option Addr) (c : Nat) (B : Option Addr) (d : Nat) (xs bs : List By) (w : World) (h1 : RdB w A 16 xs) (h2 : RdB w B 16 bs) :
    Calls Tryd.prog 77 #[.slice A 16 c, .slice B 16 d] w fun e w' => ∃ v, e = .returned (.tuple #[v, .int .i64 0]) ∧ Gives w v (xorL xs bs) w' := by
  have hka := ((Blk.new w 22 [.slice A 16 c]).alloc (.cells #[.slice B 16 d] 22)).cellAt (i := 0) rfl
  have hkb := (Blk.new (w.alloc (.cells #[.slice A 16 c] 22)) 22 [.slice B 16 d]).cellAt (i := 0) rfl
  rw [World.size_alloc] at hkb
  have hka' := Lib.hid hka
  have hkb' := Lib.hid hkb
  have h1' := Lib.hid h1
  have h2' := Lib.hid h2
  clear hka hkb h1 h2
  go_enter Tryd.func77, Tryd.ntmps77
  go_wp2_with (go_at_call 96; refine (each_any w.heap.size (w.heap.size + 1) A c B d xs bs _ hka'.out hkb'.out ((h1'.out.alloc _).alloc _) ((h2'.out.alloc _).alloc _)).mono ?_; rintro e w1 ⟨v, rfl, hg⟩; obtain ⟨A', c', hv, h3, h4, h5⟩ := hg; subst hv)
  go_ret2
  exact ⟨_, rfl, A', c', rfl, h3, ((((Fr.refl _ _).alloc _).alloc _).trans h4 (fun _ _ => id)), fun k h => by have := h5 k h; simp at this; omega⟩
theorem orL_take {l : List By} {i : Nat} {x : By} (h : l[i]? = some x) : orL 0 (l.take (i + 1)) = orL 0 (l.take i) ||| x := by
  rw [List.take_add_one, h]
  simp [orL]
theorem bI_zero (y : By) : (bI y == 0) = (y == 0) := bI_beq y 0
set_option maxRecDepth 100000 in
set_option maxHeartbeats 2000000 in
theorem hright_any (A : Option Addr) (n c : Nat) (key : List By) (z : Int) (B : Option Addr) (m d : Nat) (data : List By) (C : Option Addr) (p q : Nat) (tag : List By) (w : World) (hG : GK w) (hk : RdB w A n key) (hnc : n ≤ c) (hn : n ≤ 140737488355000) (hb : RdB w B m data) (hmd : m ≤ d) (hm : m ≤ 140737488351232) (ht : RdB w C p tag) (hp : p ≤ 9223372036854775807) :
    Calls Tryd.prog 39 #[.slice A n c, .int .i64 z, .slice B m d, .slice C p q] w fun e w' => e = .returned (.bool (tagS key z data == tag)) ∧ Fr none_ w w' := by
  obtain ⟨T, hT, lT⟩ : ∃ T, T = tagS key z data ∧ T.length = 16 := ⟨_, rfl, tagS_len _ _ _⟩
  have hT' := Lib.hid hT
  have ht' := Lib.hid ht
  clear hT ht
  by_cases h16 : p = 16
  · subst h16
    go_enter Tryd.func39, Tryd.ntmps39
    go_wp2_with (first
      | (go_at_call 77; refine (xor_yes (some ⟨w1.heap.size, 0, none⟩) 16 C q T tag W (by have := RdB.blk hB; rwa [lT] at this) (ht'.out.fr hfW (fun _ _ _ => id))).mono ?_; rintro e w2 ⟨v, rfl, hg⟩; obtain ⟨A', c', hv, h3, h4, h5⟩ := hg; have hxl : (xorL T tag).length = 16 := (by rw [xorL, List.length_zipWith, lT, ht'.out.1]; rfl); rw [hxl] at hv; subst hv)
      | (refine wpList_store_row rfl 60 (.tmp 9) (.tmp 18) rfl w1.heap.size (T.map bV).toArray rfl rfl 60 (Z16.map bV).toArray ha1.out (row16 lT) (old16 lT) (DA_all T) ?_; refine wpList_gen (fun W => Fr none_ w W ∧ Blk W w1.heap.size 60 (T.map bV)) ⟨(hf1.alloc _).trans (S' := only w1.heap.size) ⟨rfl, rfl, rfl, by simp, fun k _ hn => setRow_other _ _ _ _ hn⟩ (fun b hb e => absurd hf1.size (by unfold only at e; omega)), setRow_heap _ _ _ _ _ _ ha1.out⟩ ?_; rintro W ⟨hfW, hB⟩)
      | (go_at_call 37; refine (tag_any A n c key z B m d data _ hG hk hnc hn hb hmd hm).mono ?_; rw [← hT'.out, DA]; rintro e w1 ⟨rfl, hf1⟩; have ha1 := Lib.hid (heap_alloc_new w1 (.cells (Z16.map bV).toArray 60))))
    obtain ⟨X, hX⟩ : ∃ X, X = xorL T tag := ⟨_, rfl⟩
    rw [← hX] at h3 hxl
    have hX' := Lib.hid hX
    have hxl' := Lib.hid hxl
    have h3' := Lib.hid h3
    have hf2 := hfW.trans h4 (fun _ _ => id)
    clear hX hxl h3 h4 h5 hB hfW hf1 ha1
    go_loopw [12, 27] (fun u v wr => ∃ i : Nat, v = .int .i64 i ∧ i ≤ 16 ∧ u = .int .u8 (bI (orL 0 (X.take i))) ∧ wr = w2) (fun _ v _ => 16 - (intOf v).toNat)
    case atStart => exact ⟨0, rfl, by omega, rfl, rfl⟩
    case round =>
      obtain ⟨i, rfl, hi, rfl, rfl⟩ := hrel
      by_cases hlt : i < 16
      · obtain ⟨x, hx⟩ : ∃ x, X[i]? = some x := ⟨_, List.getElem?_eq_getElem (by rw [hxl'.out]; exact hlt)⟩
        obtain ⟨g, o, rfl, hc⟩ := (h3'.out.rd rfl).1.2 (by omega)
        have cx : wr.cell? ⟨g, o + i, none⟩ = some (.int .u8 (bI x)) := by rw [hc i hlt, List.getD_eq_getElem?_getD, hx]; rfl
        obtain ⟨y, hy⟩ : ∃ y, y = orL 0 (X.take i) := ⟨_, rfl⟩
        rw [← hy]
        have hy' := Lib.hid hy
        have hx' := Lib.hid hx
        clear hy hx hc
        go_wp2
        go_roundw
        case measure => simp [intOf]; omega
        case rel => exact ⟨i + 1, by go_num, by omega, by rw [orL_take hx'.out, hy'.out], trivial⟩
      · obtain rfl : i = 16 := by omega
        have hb16 : (bI (orL 0 (X.take 16)) == 0) = (T == tag) := by
          rw [List.take_of_length_le (by rw [hxl'.out]; exact Nat.le_refl _), bI_zero, hX'.out, right_bool _ _ (by rw [lT, ht'.out.1])]
        obtain ⟨y, hy⟩ : ∃ y, y = bI (orL 0 (X.take 16)) := ⟨_, rfl⟩
        rw [← hy] at hb16 ⊢
        have hb16' := Lib.hid hb16
        clear hy hb16
        go_wp2
        go_ret
        exact ⟨by rw [← hT'.out, ← hb16'.out]; rfl, hf2⟩
  · have hfalse : (tagS key z data == tag) = false := by
      rw [beq_eq_false_iff_ne]
      intro e
      exact h16 (by rw [← ht'.out.1, ← e, tagS_len])
    have hfalse' := Lib.hid hfalse
    clear hfalse
    go_enter Tryd.func39, Tryd.ntmps39
    go_wp2_with (first
      | (go_at_call 77; refine (xor_no (some ⟨w1.heap.size, 0, none⟩) 16 16 C p q W (Ne.symm h16) (by decide) hp).mono ?_; rintro e w2 ⟨rfl, h4⟩)
      | (refine wpList_store_row rfl 60 (.tmp 9) (.tmp 18) rfl w1.heap.size (T.map bV).toArray rfl rfl 60 (Z16.map bV).toArray ha1.out (row16 lT) (old16 lT) (DA_all T) ?_; refine wpList_gen (fun W => Fr none_ w W ∧ Blk W w1.heap.size 60 (T.map bV)) ⟨(hf1.alloc _).trans (S' := only w1.heap.size) ⟨rfl, rfl, rfl, by simp, fun k _ hn => setRow_other _ _ _ _ hn⟩ (fun b hb e => absurd hf1.size (by unfold only at e; omega)), setRow_heap _ _ _ _ _ _ ha1.out⟩ ?_; rintro W ⟨hfW, hB⟩)
      | (go_at_call 37; refine (tag_any A n c key z B m d data _ hG hk hnc hn hb hmd hm).mono ?_; rw [← hT'.out, DA]; rintro e w1 ⟨rfl, hf1⟩; have ha1 := Lib.hid (heap_alloc_new w1 (.cells (Z16.map bV).toArray 60))))
    refine wp_loop_rounds 1 ?_
    rw [rounds_succ]
    go_wp2
    go_ret
    exact ⟨by rw [hfalse'.out]; rfl, hfW.trans h4 (fun _ _ => id)⟩
end Go.Proofs.YtelhoejoncnccaaDoor
