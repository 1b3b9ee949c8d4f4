/- HMAC: its plain form; copy of bytes; the closure that begins a hash. -/
import Derived.Test.YtelhoejoncnccaaDoorD2
import Derived.Laws.CopyOwn
namespace Go.Proofs.YtelhoejoncnccaaDoor
open Go Go.RowKit
def pad64 (k : List By) : List By := k ++ List.replicate (64 - k.length) 0
def hkey (k : List By) : List By := pad64 (if 64 < k.length then sha k else k)
def xorB (k : List By) (c : By) : List By := k.map (· ^^^ c)
def hmacS (k b : List By) : List By := sha (xorB (hkey k) 92 ++ sha (xorB (hkey k) 54 ++ b))
theorem hmacS_len (k b : List By) : (hmacS k b).length = 32 := rfl
theorem pad64_length {k : List By} (h : k.length ≤ 64) : (pad64 k).length = 64 := by simp [pad64]; omega
theorem hkey_length (k : List By) : (hkey k).length = 64 := by
  unfold hkey
  split
  · exact pad64_length (by rw [sha_len]; decide)
  · exact pad64_length (by omega)
theorem u8_xor (a b : By) : bits .xor .u8 (bI a) (bI b) = bI (a ^^^ b) := by
  have e : ∀ x : By, BitVec.ofInt 8 (bI x) = x := fun x => by
    unfold bI; rw [BitVec.ofInt_natCast]; exact BitVec.eq_of_toNat_eq (by rw [BitVec.toNat_ofNat]; have := x.isLt; omega)
  have : bits .xor .u8 (bI a) (bI b) = IntKind.u8.wrap (BitVec.ofInt 8 (bI a) ^^^ BitVec.ofInt 8 (bI b)).toNat := rfl
  rw [this, e, e]
  exact wrap_bI _
theorem u8_or (a b : By) : bits .or .u8 (bI a) (bI b) = bI (a ||| b) := by
  have e : ∀ x : By, BitVec.ofInt 8 (bI x) = x := fun x => by
    unfold bI; rw [BitVec.ofInt_natCast]; exact BitVec.eq_of_toNat_eq (by rw [BitVec.toNat_ofNat]; have := x.isLt; omega)
  have : bits .or .u8 (bI a) (bI b) = IntKind.u8.wrap (BitVec.ofInt 8 (bI a) ||| BitVec.ofInt 8 (bI b)).toNat := rfl
  rw [this, e, e]
  exact wrap_bI _
/-- 'copy(dst, src)' of bytes, dst within a block known whole. -/
theorem wpList_copy_bytes {w : World} {ops : Array Oper} {rest : List Oper} {o : Oper} {a : Act} {Q : Exit → Act → World → Prop} (hgd : o.guard = none) (d s : Operand)
    (ho : o.op = .call { callee := .builtin .copy, args := #[d, s], argTypes := #[22, 22] }) (g off dLen dCap : Nat) (hd : a.eval d = .slice (some ⟨g, off, none⟩) dLen dCap)
    (cur : List By) (hB : Blk w g 5 (cur.map bV)) (hfit : off + dLen ≤ cur.length) (A : Option Addr) (n c : Nat) (bs : List By) (hs : a.eval s = .slice A n c) (hr : RdB w A n bs)
    (h : ∀ w', Blk w' g 5 ((splice cur off (bs.take dLen)).map bV) → Fr (only g) w w' → wpList Tryd.prog ops Q rest (a.put o.dst (goInt (min n dLen : Nat))) w') :
    wpList Tryd.prog ops Q (o :: rest) a w := by
  have hl : (bs.take dLen).length = min n dLen := by rw [List.length_take, hr.1, Nat.min_comm]
  by_cases h0 : min n dLen = 0
  · refine wpList_copy_nothing hgd d s 22 22 ho 5 Tryd.underlying22 (by kernel_rfl) _ _ _ _ _ _ hd hs h0 ?_
    have := h w (by
      rw [List.eq_nil_of_length_eq_zero (hl.trans h0)]
      simpa [splice] using hB) (Fr.refl _ _)
    rw [h0] at this
    exact this
  · obtain ⟨b, o', rfl, hc⟩ := hr.2 (by omega)
    refine wpList_copy_own hgd d s 22 22 ho 5 Tryd.underlying22 (by kernel_rfl) g off dLen dCap ⟨b, o', none⟩ n c hd hs (cur.map bV).toArray 5 hB ((bs.take dLen).map bV) (by rw [List.length_map, hl]) ?_ (by simp; omega) (bV_one _) ?_
    · intro j v hv
      have hj : j < min n dLen := by rw [← hl]; have := (List.getElem?_eq_some_iff.1 hv).1; simpa using this
      rw [List.getElem?_map, List.getElem?_take, if_pos (by omega)] at hv
      rw [Addr.add_lit, hc j (by omega), ← hv]
      have := hr.1
      simp [bV, List.getD_eq_getElem?_getD, show j < bs.length by omega]
    · obtain ⟨N, hN⟩ : ∃ N, N = (cur.map bV).take off ++ (((bs.take dLen).map bV) ++ (cur.map bV).drop (off + ((bs.take dLen).map bV).length)) := ⟨_, rfl⟩
      have hb := setRow_heap w g (cur.map bV).toArray N.toArray 5 (0, 0) hB
      have e : (splice cur off (bs.take dLen)).map bV = N := by rw [hN]; simp [splice, List.map_take, List.map_drop]
      have := h (w.setRow g N.toArray) (by rw [e]; exact hb) (⟨rfl, rfl, rfl, by simp [World.setRow], fun k _ hn => setRow_other _ _ _ _ hn⟩)
      rw [List.length_map, hl]
      rw [show (cur.map bV).toArray.toList = cur.map bV from rfl]
      rw [List.length_map, hl] at hN
      rw [← hN]
      exact this
def Z64 : List By := List.replicate 64 0
theorem make64 (w : World) : (Instr.makeSlice 22 (.int .i64 64) (.int .i64 64)).run Tryd.prog w = .ok (.slice (some ⟨w.heap.size, 0, none⟩) 64 64) (w.alloc (.cells (Z64.map bV).toArray 5)) := by kernel_rfl
theorem splice_pad {k : List By} (h : k.length ≤ 64) : splice Z64 0 (k.take 64) = pad64 k := by
  unfold splice pad64 Z64
  rw [List.take_of_length_le h, List.drop_replicate]
  simp
attribute [local go_sem] u8_xor
/-- The relation of the loop that turns each byte. -/
def Turned (K l : List By) (c : By) (j : Nat) : Prop := l.length = 64 ∧ (∀ q, q < j → l[q]? = (xorB K c)[q]?) ∧ ∀ q, j ≤ q → l[q]? = K[q]?
set_option maxRecDepth 100000 in
set_option maxHeartbeats 2000000 in
theorem begun_any (kb : Nat) (A : Option Addr) (n cap : Nat) (bs : List By) (c : By) (w : World) (hG : GK w) (hk : w.cell? ⟨kb, 0, none⟩ = some (.slice A n cap)) (hr : RdB w A n bs) (hn : n ≤ 64) :
    Calls Tryd.prog 74 #[.int .u8 (bI c), .pointer (some ⟨kb, 0, none⟩)] w fun e w' => ∃ hb rv, e = .returned (.pointer (some ⟨hb, 0, none⟩)) ∧ Fr none_ w w' ∧ Going w' hb rv (xorB (pad64 bs) c) ∧ w.heap.size ≤ hb ∧ (∀ k, inBlk rv k → w.heap.size ≤ k) := by
  have hG' := Lib.hid hG
  have hr' := Lib.hid hr
  have hmk := make64
  have hkl := block_lt_of_cell hk
  have hka : ∀ o, (w.alloc o).cell? ⟨kb, 0, none⟩ = some (.slice A n cap) := fun o => (((Fr.refl none_ w).alloc o).cell (p := ⟨kb, 0, none⟩) hkl id).trans hk
  clear hG hr
  go_enter Tryd.func74, Tryd.ntmps74
  go_wp2_with (with_reducible refine wpList_copy_bytes rfl (.tmp 8) (.tmp 9) rfl w.heap.size 0 64 64 rfl Z64 (Blk.new w 5 (Z64.map bV)) (Nat.le_refl _) A n cap bs rfl (hr'.out.alloc _) ?_; intro w1 hB1 hf1)
  rw [splice_pad (by rw [hr'.out.1]; exact hn)] at hB1
  have hlK : (pad64 bs).length = 64 := pad64_length (by rw [hr'.out.1]; exact hn)
  obtain ⟨K, hK⟩ : ∃ K, K = pad64 bs := ⟨_, rfl⟩
  rw [← hK] at hB1 hlK
  have hK' := Lib.hid hK
  have hlK' := Lib.hid hlK
  have hf2 : Fr none_ w w1 := ((Fr.refl none_ w).alloc _).trans hf1 (fun b hb h => by unfold only at h; omega)
  clear hK hlK hf1 hmk hk hka
  go_loopw [13] (fun i wr => ∃ (j : Nat) (l : List By), i = .int .i64 j ∧ j ≤ 64 ∧ Turned K l c j ∧ Fr none_ w wr ∧ Blk wr w.heap.size 5 (l.map bV)) (fun i _ => 64 - (intOf i).toNat)
  case atStart => exact ⟨0, K, rfl, by omega, ⟨hlK'.out, fun q hq => by omega, fun _ _ => rfl⟩, hf2, hB1⟩
  case round =>
    clear hf2 hB1
    obtain ⟨j, l, rfl, hj, hT, hfr, hB⟩ := hrel
    have hT' := Lib.hid hT
    clear hT
    by_cases hlt : j < 64
    · have hKj : j < K.length := by rw [hlK'.out]; exact hlt
      have hlj : l[j]? = some K[j] := by rw [hT'.out.2.2 j (Nat.le_refl _), List.getElem?_eq_getElem hKj]
      obtain ⟨x, hx⟩ : ∃ x, x = K[j] := ⟨_, rfl⟩
      rw [← hx] at hlj
      have hx' := Lib.hid hx
      have cj : wr.cell? ⟨w.heap.size, j, none⟩ = some (.int .u8 (bI x)) := hB.cellAt (mapat hlj)
      have fj := hB.free j
      clear hx hlj
      go_wp2
      go_roundw
      case measure => simp [intOf]; omega
      case rel =>
        refine ⟨j + 1, l.set j (x ^^^ c), by go_num, by omega, ⟨by rw [List.length_set]; exact hT'.out.1, fun q hq => ?_, fun q hq => ?_⟩, hfr.setCell (p := ⟨w.heap.size, j, none⟩) (fun h => absurd h (by simp)) _, ?_⟩
        · rw [List.getElem?_set]
          split
          · rename_i e
            subst e
            rw [if_pos (by rw [hT'.out.1]; exact hlt), xorB, List.getElem?_map, List.getElem?_eq_getElem hKj, ← hx'.out]
            rfl
          · exact hT'.out.2.1 q (by omega)
        · rw [List.getElem?_set_ne (by omega)]
          exact hT'.out.2.2 q (by omega)
        · rw [List.map_set]
          exact hB.store j _
    · obtain rfl : j = 64 := by omega
      have hl : l = xorB K c := by
        apply List.ext_getElem?
        intro q
        rcases Nat.lt_or_ge q 64 with h | h
        · exact hT'.out.2.1 q h
        · rw [List.getElem?_eq_none (by rw [hT'.out.1]; omega), List.getElem?_eq_none (by rw [xorB, List.length_map, hlK'.out]; omega)]
      subst hl
      clear hT'
      have hrd := RdB.blk hB
      have hxl : (xorB K c).length = 64 := by rw [xorB, List.length_map, hlK'.out]
      rw [hxl] at hrd
      have hrd' := Lib.hid hrd
      have hxl' := Lib.hid hxl
      have hB' := Lib.hid hB
      clear hrd hxl hB
      have hws := hB'.out.lt
      go_wp2_with fail
      refine (new_any _).mono ?_
      rintro e w3 ⟨rfl, rfl⟩
      go_wp2_with fail
      have hw0 := hG'.out.lt
      have hsz := hfr.size
      refine (write_go (some ⟨w.heap.size, 0, none⟩) 64 64 (xorB K c) _ (Going.new wr) (hG'.out.fr (hfr.alloc _) id) (hrd'.out.fr ((Fr.refl none_ wr).alloc _) (fun _ _ _ => id)) (Nat.le_refl _) (by omega) ?_ ?_ (by decide)).mono ?_
      · intro _ b o e
        cases e
        exact ⟨by omega, fun h => by cases h⟩
      · intro h
        rcases h with h | h
        · omega
        · cases h
      rintro e w4 ⟨rfl, rv, hf4, hg4, hk4⟩
      go_wp2
      go_ret
      rw [← hK'.out]
      refine ⟨wr.heap.size, rv, rfl, (hfr.alloc _).trans hf4 (fun b hb h => ?_), by simpa using hg4, hsz, fun k h => ?_⟩
      · rcases h with h | h
        · omega
        · cases h
      · rcases hk4 k h with h | h
        · cases h
        · simp at h; omega
end Go.Proofs.YtelhoejoncnccaaDoor
