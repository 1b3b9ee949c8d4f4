/- sha.Sum; no hash. -/
import Derived.Test.YtelhoejoncnccaaDoorB8
namespace Go.Proofs.YtelhoejoncnccaaDoor
open Go Go.RowKit

def DA (l : List By) : Value := .agg (l.map bV).toArray
def Z32 : List By := List.replicate 32 0

set_option maxRecDepth 100000 in
set_option maxHeartbeats 1000000 in
theorem write_nil (v : Value) (w : World) : Calls Tryd.prog 23 #[.pointer none, v] w fun e w' => e = .returned (.tuple #[]) ∧ w' = w := by
  go_enter Tryd.func23, Tryd.ntmps23
  go_wp2
  refine bodyPost_ret (results_none rfl _ _ _) rfl ?_
  exact ⟨rfl, rfl⟩
theorem alloc32 (w : World) : (w.alloc (.cells (Z32.map bV).toArray 23)).heap[w.heap.size]? = some (.cells (Z32.map bV).toArray 23 (0, 0)) := heap_alloc_new w _
set_option maxRecDepth 100000 in
set_option maxHeartbeats 1000000 in
theorem sum_nil (w : World) : Calls Tryd.prog 24 #[.pointer none] w fun e w' => e = .returned (DA Z32) ∧ Fr none_ w w' := by
  have h32 := Lib.hid (alloc32 w)
  go_enter Tryd.func24, Tryd.ntmps24
  go_wp2_with (refine wpList_store_row rfl 23 (.tmp 2) (.tmp 12) rfl w.heap.size (Z32.map bV).toArray rfl rfl 23 (Z32.map bV).toArray h32.out (by kernel_rfl) (by kernel_rfl) (by kernel_rfl) ?_)
  refine bodyPost_ret (results_cell_row rfl _ _ w.heap.size 23 (Z32.map bV).toArray (0, 0) _ rfl (setRow_heap _ _ _ _ _ _ h32.out) Tryd.underlying23 rfl (by kernel_rfl)) rfl ⟨rfl, ?_⟩
  exact ((Fr.refl none_ w).alloc _).trans (S' := only w.heap.size) ⟨rfl, rfl, rfl, by simp, fun k _ hn => setRow_other _ _ _ _ hn⟩ (fun b hb h => absurd h (by unfold only; omega))

theorem DA_one (l : List By) : ((l.map bV).toArray).all (·.oneCell') = true := by
  simp [bV, Value.oneCell']

set_option maxRecDepth 100000 in
set_option maxHeartbeats 1000000 in
theorem shasum_any (A : Option Addr) (n c : Nat) (bs : List By) (w : World) (hG : GK w) (hbs : RdB w A n bs) (hnc : n ≤ c) (hn : n ≤ 140737488355000) :
    Calls Tryd.prog 18 #[.slice A n c] w fun e w' => e = .returned (DA (sha bs)) ∧ Fr none_ w w' := by
  have hG' := Lib.hid hG
  have hbs' := Lib.hid hbs
  clear hG hbs
  go_enter Tryd.func18, Tryd.ntmps18
  go_wp2_with fail
  refine (new_any _).mono ?_
  rintro e w1 ⟨rfl, hw1⟩
  have hb1 : Hash w1 (w.heap.size + 1) st0 (.slice none 0 0) [] 0 := by
    subst hw1
    refine ⟨?_, OwB.nil _⟩
    have := Blk.new (w.alloc (.cells (Z32.map bV).toArray 23)) 86 (heads st0 (.slice none 0 0) (.int .u64 0))
    rw [World.size_alloc] at this
    exact this
  have hf1 : Fr none_ w w1 := by subst hw1; exact ((Fr.refl _ _).alloc _).alloc _
  have hR1 : Blk w1 w.heap.size 23 (Z32.map bV) := by subst hw1; exact (Blk.new w 23 (Z32.map bV)).alloc _
  clear hw1
  have hlt := hb1.blk.lt
  go_wp2_with fail
  refine (write_any (w.heap.size + 1) A n c bs [] w1 st0 (.slice none 0 0) 0 hb1 (by decide) (hG'.out.fr hf1 id) (hbs'.out.fr hf1 (fun _ _ _ => id)) hnc hn ?_ ?_ (by omega)).mono ?_
  · intro h0 b o e
    have := hbs'.out.lt b o e h0
    exact ⟨by omega, fun h => by cases h⟩
  · intro h
    rcases h with h | h
    · cases h
    · cases h
  rintro e w2 ⟨rfl, rv2, hf2, hH2, hk2⟩
  have hf2' : Fr none_ w w2 := hf1.trans hf2 (fun b hb h => by
    rcases h with h | h
    · omega
    · cases h)
  have hR2 := hR1.fr hf2 (fun h => by
    rcases h with h | h
    · omega
    · cases h)
  have hsha : digest (fed (fed st0 bs) (left_ bs ++ padOf (0 + n))) = sha bs := by
    rw [sha_eq, Nat.zero_add, hbs'.out.1]
  have hsha' := Lib.hid hsha
  clear hsha
  go_wp2_with fail
  refine (sum_any (w.heap.size + 1) w2 _ rv2 _ (0 + n) hH2 (by rw [left_length]; simp [hbs'.out.1]) (by omega) (hG'.out.fr hf2' id)).mono ?_
  rintro e w3 ⟨rfl, hf3⟩
  have hR3 := hR2.fr hf3 id
  have hR3' := Lib.hid hR3
  clear hR3
  simp only [List.nil_append] at *
  rw [hsha'.out]
  go_wp2_with (refine wpList_store_row rfl 23 (.tmp 2) (.tmp 9) rfl w.heap.size ((sha bs).map bV).toArray rfl rfl 23 (Z32.map bV).toArray hR3'.out (by kernel_rfl) (by simp [sha_length, Z32]) (DA_one _) ?_)
  refine bodyPost_ret (results_cell_row rfl _ _ w.heap.size 23 ((sha bs).map bV).toArray (0, 0) _ rfl (setRow_heap _ _ _ _ _ _ hR3'.out) Tryd.underlying23 rfl (by kernel_rfl)) rfl ⟨rfl, ?_⟩
  exact (hf2'.trans hf3 (fun _ _ => id)).trans (S' := only w.heap.size) ⟨rfl, rfl, rfl, by simp, fun k _ hn => setRow_other _ _ _ _ hn⟩ (fun b hb h => absurd h (by unfold only; omega))
end Go.Proofs.YtelhoejoncnccaaDoor
