/- The law of tags: the walk. -/
import Derived.Test.YtelhoejoncnccaaDoorF3
namespace Go.Proofs.YtelhoejoncnccaaDoor
open Go Go.RowKit
theorem reftag_is (D : List By) (A : Option Addr) (n c : Nat) (key : List By) (z : Int) (B : Option Addr) (m d : Nat) (data : List By) (w : World) (hD : D = tagS key z data) (hk : RdB w A n key) (hn : n ≤ 140737488355000) (hb : RdB w B m data) (hm : m ≤ 140737488351232) :
    Calls Tryd.prog 38 #[.slice A n c, .int .i64 z, .slice B m d] w fun e w' => e = .returned (DA D) ∧ Fr none_ w w' := by
  rw [hD]
  exact reftag_any A n c key z B m d data w hk hn hb hm
theorem right_is (b : Bool) (A : Option Addr) (n c : Nat) (key : List By) (z : Int) (B : Option Addr) (m d : Nat) (data : List By) (C : Option Addr) (p q : Nat) (tag : List By) (w : World) (hβ : b = (tagS key z data == tag)) (hG : GK w) (hk : RdB w A n key) (hnc : n ≤ c) (hn : n ≤ 140737488355000) (hb : RdB w B m data) (hmd : m ≤ d) (hm : m ≤ 140737488351232) (ht : RdB w C p tag) (hp : p ≤ 9223372036854775807) :
    Calls Tryd.prog 39 #[.slice A n c, .int .i64 z, .slice B m d, .slice C p q] w fun e w' => e = .returned (.bool b) ∧ Fr none_ w w' := by
  rw [hβ]
  exact hright_any A n c key z B m d data C p q tag w hG hk hnc hn hb hmd hm ht hp
theorem refright_is (b : Bool) (A : Option Addr) (n c : Nat) (key : List By) (z : Int) (B : Option Addr) (m d : Nat) (data : List By) (C : Option Addr) (p q : Nat) (tag : List By) (w : World) (hβ : b = (tagS key z data == tag)) (hk : RdB w A n key) (hn : n ≤ 140737488355000) (hb : RdB w B m data) (hm : m ≤ 140737488351232) (ht : RdB w C p tag) :
    Calls Tryd.prog 40 #[.slice A n c, .int .i64 z, .slice B m d, .slice C p q] w fun e w' => e = .returned (.bool b) ∧ Fr none_ w w' := by
  rw [hβ]
  exact refright_any A n c key z B m d data C p q tag w hk hn hb hm ht
theorem eqT {T : List By} (lT : T.length = 16) (w : World) : (binOp .eql 60 (.agg (T.map bV).toArray) (.agg (T.map bV).toArray)).run Tryd.prog w = .ok (.bool true) w := by
  have := run_eql_bytes (P := Tryd.prog) w 60 5 16 Tryd.underlying60 Tryd.underlying5 (fun w => by kernel_rfl) (T.map UInt8.ofBitVec) (T.map UInt8.ofBitVec) (by simpa using lT) (by simpa using lT)
  rw [map_cell, byte_beq, beq_self_eq_true] at this
  exact this
theorem egT {T : List By} (w : World) (op : BinOp) (x y : Operand) : (eqGuard op 60 x y (.agg (T.map bV).toArray) (.agg (T.map bV).toArray)).run Tryd.prog w = .ok () w := run_eqGuard_agg w op 60 x y _ _ (by kernel_rfl)
/-- A row loaded under a guard that is met. -/
theorem wpList_load60_met {ops : Array Oper} {rest : List Oper} {o : Oper} {a : Act} {w : World} {Q : Exit → Act → World → Prop} (hgd : Region.wanted o (yielded ops a.tmps) = true) (x : Operand) (ho : o.op = .load 60 x)
    (g : Nat) (hx : a.eval x = .pointer (some ⟨g, 0, none⟩)) (cs : Array Value) (hg : w.heap[g]? = some (.cells cs 60 (0, 0))) (hi : (Tryd.prog.info? 60).map (·.size) = some cs.size)
    (h : wpList Tryd.prog ops Q rest (a.put o.dst (.agg cs)) w) : wpList Tryd.prog ops Q (o :: rest) a w :=
  wpList_step fun K hK => by
    rw [if_pos hgd]
    exact wp_load_row 60 x ho g hx 60 cs (0, 0) _ hg Tryd.underlying60 rfl hi (hK _ _ h)
def Z16A : Array Value := (Z16.map bV).toArray
theorem alloc16 (w : World) : (w.alloc (.cells Z16A 60)).heap[w.heap.size]? = some (.cells Z16A 60 (0, 0)) := heap_alloc_new w _
theorem made16 {w : World} {l : List By} : Blk ((w.alloc (.cells Z16A 60)).setRow w.heap.size (l.map bV).toArray) w.heap.size 60 (l.map bV) := setRow_heap _ _ _ _ _ _ (alloc16 w)
theorem made16_fr {w0 w : World} {l : List By} (h : Fr none_ w0 w) : Fr none_ w0 ((w.alloc (.cells Z16A 60)).setRow w.heap.size (l.map bV).toArray) :=
  (h.alloc _).trans (S' := only w.heap.size) ⟨rfl, rfl, rfl, by simp, fun k _ hn => setRow_other _ _ _ _ hn⟩ (fun b hb e => absurd h.size (by unfold only at e; omega))
set_option maxRecDepth 100000 in
set_option maxHeartbeats 2000000 in
theorem hmacTags_any (A : Option Addr) (n c : Nat) (key : List By) (z : Int) (B : Option Addr) (m d : Nat) (data : List By) (C : Option Addr) (p q : Nat) (tag : List By) (w : World) (hG : GK w) (hk : RdB w A n key) (hnc : n ≤ c) (hn : n ≤ 140737488351232) (hb : RdB w B m data) (hmd : m ≤ d) (hm : m ≤ 140737488351232) (ht : RdB w C p tag) (hp : p ≤ 9223372036854775807) :
    Calls Tryd.prog 11 #[.agg #[.slice A n c, .int .i64 z, .slice B m d, .slice C p q]] w fun e w' => e = .returned (.bool true) ∧ Fr none_ w w' := by
  have hG' := Lib.hid hG
  have hk' := Lib.hid hk
  have hb' := Lib.hid hb
  have ht' := Lib.hid ht
  clear hG hk hb ht
  obtain ⟨T, hT, lT⟩ : ∃ T, T = tagS key z data ∧ T.length = 16 := ⟨_, rfl, tagS_len _ _ _⟩
  obtain ⟨β, hβ⟩ : ∃ β, β = (tagS key z data == tag) := ⟨_, rfl⟩
  have hT' := Lib.hid hT
  have hβ' := Lib.hid hβ
  clear hT hβ
  have hz1 := @egT T
  have hz2 := eqT lT
  have hbox := Lib.hid (Blk.new w 57 (tagged A n c z B m d C p q))
  have hF0 := Lib.hid ((Fr.refl none_ w).alloc (.cells (tagged A n c z B m d C p q).toArray 57))
  go_enter Tryd.func11, Tryd.ntmps11
  go_wp2_with (first
    | (refine wpList_store_row rfl 60 (.tmp 3) (.tmp 13) rfl w1.heap.size (T.map bV).toArray rfl rfl 60 Z16A ha1.out (row16 lT) (old16 lT) (DA_all T) ?_; refine wpList_gen (fun W => Fr none_ (w.alloc (.cells (tagged A n c z B m d C p q).toArray 57)) W ∧ Blk W w1.heap.size 60 (T.map bV)) ⟨made16_fr hf1, made16⟩ ?_; rintro W ⟨hfW, hB⟩; have hb1 := hbox.out.fr hfW id; have k0 := hb1.cellAt (i := 0) rfl; have k1 := hb1.cellAt (i := 1) rfl; have k2 := hb1.cellAt (i := 2) rfl; have k3 := hb1.cellAt (i := 3) rfl; have hFW := Lib.hid (hF0.out.trans hfW (fun _ _ => id)))
    | (go_at_call 37; refine (tag_is T A n c key z B m d data _ hT'.out (hG'.out.fr hF0.out id) (hk'.out.alloc _) hnc (by omega) (hb'.out.alloc _) hmd hm).mono ?_; rw [DA]; rintro e w1 ⟨rfl, hf1⟩; have ha1 := Lib.hid (alloc16 w1)))
  refine (reftag_is T A n c key z B m d data _ hT'.out (hk'.out.fr hFW.out (fun _ _ _ => id)) (by omega) (hb'.out.fr hFW.out (fun _ _ _ => id)) hm).mono ?_
  rw [DA]
  rintro e w2 ⟨rfl, hf2⟩
  have ha2 := Lib.hid (alloc16 w2)
  clear k0 k1 k2 k3
  go_wp2_with (refine wpList_store_row rfl 60 (.tmp 4) (.tmp 20) rfl w2.heap.size (T.map bV).toArray rfl rfl 60 Z16A ha2.out (row16 lT) (old16 lT) (DA_all T) ?_; refine wpList_gen (fun V => Fr none_ W V ∧ Blk V w2.heap.size 60 (T.map bV)) ⟨made16_fr hf2, made16⟩ ?_; rintro V ⟨hfV, hC⟩; have hb2 := hb1.fr hfV id; have k0 := hb2.cellAt (i := 0) rfl; have k1 := hb2.cellAt (i := 1) rfl; have k2 := hb2.cellAt (i := 2) rfl; have k3 := hb2.cellAt (i := 3) rfl; have hFV := Lib.hid (hFW.out.trans hfV (fun _ _ => id)))
  refine (right_is β A n c key z B m d data C p q tag _ hβ'.out (hG'.out.fr hFV.out id) (hk'.out.fr hFV.out (fun _ _ _ => id)) hnc (by omega) (hb'.out.fr hFV.out (fun _ _ _ => id)) hmd hm (ht'.out.fr hFV.out (fun _ _ _ => id)) hp).mono ?_
  rintro e w5 ⟨rfl, hf5⟩
  have hb5 := hb2.fr hf5 id
  clear k0 k1 k2 k3
  have k0 := hb5.cellAt (i := 0) rfl
  have k1 := hb5.cellAt (i := 1) rfl
  have k2 := hb5.cellAt (i := 2) rfl
  have k3 := hb5.cellAt (i := 3) rfl
  have hF5 := Lib.hid (hFV.out.trans hf5 (fun _ _ => id))
  go_wp2_with fail
  refine (refright_is β A n c key z B m d data C p q tag _ hβ'.out (hk'.out.fr hF5.out (fun _ _ _ => id)) (by omega) (hb'.out.fr hF5.out (fun _ _ _ => id)) hm (ht'.out.fr hF5.out (fun _ _ _ => id))).mono ?_
  rintro e w6 ⟨rfl, hf6⟩
  have hF6 := Lib.hid (hF5.out.trans hf6 (fun _ _ => id))
  clear k0 k1 k2 k3
  go_wp2_with fail
  refine (alive3_any _ (hG'.out.fr hF6.out id)).mono ?_
  rintro e w7 ⟨rfl, hf7⟩
  have hC7 := ((hC.fr hf5 id).fr hf6 id).fr hf7 id
  have hB7 := (((hB.fr hfV id).fr hf5 id).fr hf6 id).fr hf7 id
  go_wp2_with (first
    | (refine wpList_load60_met rfl (.tmp 4) rfl w2.heap.size rfl (T.map bV).toArray hC7 (row16 lT) ?_)
    | (refine wpList_load60_met rfl (.tmp 3) rfl w1.heap.size rfl (T.map bV).toArray hB7 (row16 lT) ?_))
  go_ret
  exact ⟨rfl, hF6.out.trans hf7 (fun _ _ => id)⟩
end Go.Proofs.YtelhoejoncnccaaDoor
