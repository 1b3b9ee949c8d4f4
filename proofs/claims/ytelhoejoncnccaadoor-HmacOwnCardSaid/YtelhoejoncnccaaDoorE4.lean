/- Tags of sectors, by contract. -/
import Derived.Test.YtelhoejoncnccaaDoorE2
import Derived.Test.YtelhoejoncnccaaDoorE3
import Derived.Deep.MidRow
import Derived.Laws.Cover3
namespace Go.Proofs.YtelhoejoncnccaaDoor
open Go Go.RowKit
def u64 (z : Int) : Nat := (z % 18446744073709551616).toNat
theorem u64_lt (z : Int) : u64 z < 18446744073709551616 := by unfold u64; omega
theorem wrap_u64 (z : Int) : IntKind.u64.wrap z = (u64 z : Int) := by rw [IntKind.wrap_u64]; unfold u64; omega
def tagS (key : List By) (z : Int) (data : List By) : List By := (hmacS key (be8 (u64 z) ++ data)).take 16
theorem tagS_len (key : List By) (z : Int) (data : List By) : (tagS key z data).length = 16 := by
  rw [tagS, List.length_take, hmacS_len]; rfl
def Z16 : List By := List.replicate 16 0
attribute [local go_sem] wrap_u64
theorem hmac_is (D : List By) (A : Option Addr) (n c : Nat) (key : List By) (B : Option Addr) (m d : Nat) (bs : List By) (w : World) (hD : D = hmacS key bs) (hG : GK w) (hk : RdB w A n key) (hnc : n ≤ c) (hn : n ≤ 140737488355000) (hb : RdB w B m bs) (hmd : m ≤ d) (hm : m ≤ 140737488355000) :
    Calls Tryd.prog 33 #[.slice A n c, .slice B m d] w fun e w' => e = .returned (DA D) ∧ Fr none_ w w' := by
  rw [hD]
  exact hmac_any A n c key B m d bs w hG hk hnc hn hb hmd hm
theorem row16 {T : List By} (h : T.length = 16) : (Tryd.prog.info? 60).map (·.size) = some (T.map bV).toArray.size := by
  rw [show (T.map bV).toArray.size = 16 by simp [h]]; kernel_rfl
theorem old16 {T : List By} (h : T.length = 16) : (Z16.map bV).toArray.size = (T.map bV).toArray.size := by
  rw [show (T.map bV).toArray.size = 16 by simp [h]]; rfl
theorem rangeAt_front {w : World} {g : Nat} {l : List By} (h : w.rangeAt g 0 (l.map bV)) (k : Nat) : w.rangeAt g 0 ((l.take k).map bV) := fun j v hv => by
  apply h j v
  rw [List.getElem?_map, List.getElem?_take] at hv
  rw [List.getElem?_map]
  split at hv
  · exact hv
  · cases hv
theorem sub_off : (16 : Nat) ≤ 32 := by decide
set_option maxRecDepth 100000 in
set_option maxHeartbeats 2000000 in
theorem tag_any (A : Option Addr) (n c : Nat) (key : List By) (z : Int) (B : Option Addr) (m d : Nat) (data : List By) (w : World) (hG : GK w) (hk : RdB w A n key) (hnc : n ≤ c) (hn : n ≤ 140737488355000) (hb : RdB w B m data) (_hmd : m ≤ d) (hm : m ≤ 140737488351232) :
    Calls Tryd.prog 37 #[.slice A n c, .int .i64 z, .slice B m d] w fun e w' => e = .returned (DA (tagS key z data)) ∧ Fr none_ w w' := by
  obtain ⟨i5, hi5, hz5, hs5, hb5⟩ := info_parts (P := Tryd.prog) (e := 5) (z := .int .u8 0) (size := 1) (bytes := 1) (by kernel_rfl)
  obtain ⟨D, hD, lD⟩ : ∃ D, D = hmacS key (be8 (u64 z) ++ data) ∧ D.length = 32 := ⟨_, rfl, hmacS_len _ _⟩
  obtain ⟨T, hT, lT⟩ : ∃ T, T = D.take 16 ∧ T.length = 16 := ⟨_, rfl, by rw [List.length_take, lD]; rfl⟩
  have hTt : tagS key z data = T := by rw [hT, hD]; rfl
  have hTt' := Lib.hid hTt
  have hD' := Lib.hid hD
  have hT' := Lib.hid hT
  have hG' := Lib.hid hG
  have hk' := Lib.hid hk
  have hb' := Lib.hid hb
  have hbl := Lib.hid hb.1
  clear hG hk hb hD hT hTt
  have hat := fun (w : World) (a : Option Addr) (len cap : Nat) (hl : 16 ≤ len) => run_arrayAt (P := Tryd.prog) w 60 5 16 a len cap Tryd.underlying60 hl
  have hat16 := fun (w : World) (a : Option Addr) => hat w a 16 32 (by decide)
  clear hat
  go_enter Tryd.func37, Tryd.ntmps37
  go_wp2_with fail
  refine (oput8_any (u64 z) _ (u64_lt z)).mono ?_
  rintro e w1 ⟨v1, he, A1, c1, hv, ho1, hf1, hk1⟩
  rw [be8_length] at hv
  subst hv
  subst he
  have hf1' : Fr none_ (w.alloc (.cells (Z16.map bV).toArray 60)) w1 := hf1
  have hR1 := (Blk.new w 60 (Z16.map bV)).fr hf1' id
  have hF1 := ((Fr.refl none_ w).alloc _).trans hf1 (fun _ _ => id)
  have hk1' : ∀ k, inBlk (.slice A1 8 c1) k → w.heap.size ≤ k := fun k h => by have := hk1 k h; simp at this; omega
  have hRs := hR1.lt
  have hb1' := Lib.hid (hb'.out.fr hF1 (fun _ _ _ => id))
  go_wp2_with (first
    | (refine wpList_store_row rfl 60 (.tmp 6) (.tmp 23) rfl w.heap.size (T.map bV).toArray rfl rfl 60 (Z16.map bV).toArray hR3 (row16 lT) (old16 lT) (DA_all T) ?_)
    | (refine wpList_load_mid rfl 60 (.tmp 22) rfl w3.heap.size 0 rfl (T.map bV) _ hrg Tryd.underlying60 rfl (row16 lT) ?_)
    | (refine wpList_store_row rfl 23 (.tmp 9) (.tmp 20) rfl w3.heap.size (D.map bV).toArray rfl rfl 23 Z32A ha3.out (row_info lD) (row_old lD) (DA_all D) ?_; refine wpList_gen (fun W => Fr none_ w2 W ∧ Blk W w3.heap.size 23 (D.map bV)) ⟨made_row_fr hf3, made_row⟩ ?_; rintro W ⟨hfW, hB⟩; have hrg := hT'.out ▸ rangeAt_front hB.range 16; have hR3 := (hR2.fr hfW id))
    | (go_at_call 33; refine (hmac_is D A n c key _ _ _ _ _ hD'.out (hG'.out.fr hF2 id) (hk'.out.fr hF2 (fun _ _ _ => id)) hnc hn (ho2.rd rfl).1 hc2 (by omega)).mono ?_; rw [DA]; rintro e w3 ⟨rfl, hf3⟩; have ha3 := Lib.hid (alloc32' w3))
    | (at_builtin; refine wpList_append_bytes _ rfl (.tmp 17) (.tmp 18) 22 rfl i5 Tryd.underlying22 hi5 hz5 hs5 hb5 (.slice A1 8 c1) rfl (be8 (u64 z)) ho1 B m d data rfl hb1'.out (by rw [be8_length]; omega) ?_; intro v2 w2 ho2 hf2 hk2; obtain ⟨A2, c2, hv2, hc2, hm2⟩ := ho2.slice; rw [List.length_append, be8_length, hbl.out] at hv2 hc2; subst hv2; have hF2 := Fr.far hF1 hf2 hk1'; have hR2 := hR1.fr hf2 (ho1.ne hR1 (by decide))))
  refine bodyPost_ret (results_cell_row rfl _ _ w.heap.size 60 (T.map bV).toArray (0, 0) _ rfl (setRow_heap _ _ _ _ _ _ hR3) Tryd.underlying60 rfl (row16 lT)) rfl ⟨?_, ?_⟩
  · rw [hTt'.out]; rfl
  · exact (hF2.trans hfW (fun _ _ => id)).trans (S' := only w.heap.size) ⟨rfl, rfl, rfl, by simp, fun k _ hn => setRow_other _ _ _ _ hn⟩ (fun b hb h => absurd h (by unfold only; omega))
end Go.Proofs.YtelhoejoncnccaaDoor
