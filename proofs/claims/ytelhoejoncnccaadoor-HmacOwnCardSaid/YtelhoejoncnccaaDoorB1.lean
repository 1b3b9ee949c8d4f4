/- Memory: blocks known whole, slices that read as lists, what a call leaves as it was. -/
import Derived.WalkKit
import Derived.Deep.Draws
import Derived.Test.YtelhoejoncnccaaDoorB0
namespace Go.Proofs.YtelhoejoncnccaaDoor
open Go Go.RowKit

/-- The streams are as they were; no block has gone; every old block that S does not name is as it was. -/
structure Fr (S : Nat → Prop) (w w' : World) : Prop where
  os : w'.os = w.os
  tape : w'.tape = w.tape
  output : w'.output = w.output
  size : w.heap.size ≤ w'.heap.size
  block : ∀ k, k < w.heap.size → ¬ S k → w'.heap[k]? = w.heap[k]?

def none_ (_ : Nat) : Prop := False
def only (b k : Nat) : Prop := k = b
def two_ (b b' k : Nat) : Prop := k = b ∨ k = b'

section
variable {S S' : Nat → Prop} {w w' w'' : World}
theorem Fr.refl (S : Nat → Prop) (w : World) : Fr S w w := ⟨rfl, rfl, rfl, Nat.le_refl _, fun _ _ _ => rfl⟩
theorem Fr.trans (h : Fr S w w') (k : Fr S' w' w'') (hs : ∀ b, b < w.heap.size → S' b → S b) : Fr S w w'' :=
  ⟨k.os.trans h.os, k.tape.trans h.tape, k.output.trans h.output, Nat.le_trans h.size k.size, fun b hb hn =>
    (k.block b (Nat.lt_of_lt_of_le hb h.size) (fun x => hn (hs b hb x))).trans (h.block b hb hn)⟩
theorem Fr.mono (h : Fr S w w') (hs : ∀ b, b < w.heap.size → S b → S' b) : Fr S' w w' :=
  ⟨h.os, h.tape, h.output, h.size, fun b hb hn => h.block b hb (fun x => hn (hs b hb x))⟩
theorem Fr.drew (h : Fr S w w') : Fr S w w'.drew := ⟨h.os, h.tape, h.output, h.size, h.block⟩
theorem Fr.drewN (h : Fr S w w') (n : Nat) : Fr S w (w'.drewN n) := ⟨h.os, h.tape, h.output, h.size, h.block⟩
theorem Fr.alloc (h : Fr S w w') (o : Obj) : Fr S w (w'.alloc o) :=
  h.trans (S' := none_) ⟨rfl, rfl, rfl, by simp, fun k hk _ => Below.heap_alloc _ _ _ hk⟩ (fun _ _ x => x.elim)
theorem Fr.setCell (h : Fr S w w') {p : Addr} (hp : p.block < w.heap.size → S p.block) (u : Value) : Fr S w (w'.setCell p u) :=
  h.trans (S' := only p.block) ⟨rfl, rfl, rfl, by simp [World.setCell], fun k _ hn => Below.heap_setCell _ _ _ _ hn⟩ (fun b hb x => by cases x; exact hp hb)
theorem Fr.grown {row : Option Nat} (h : Fr S w w') (hg : w'.grownBy w'' row) (hr : ∀ k, row = some k → k < w.heap.size → S k) : Fr S w w'' :=
  h.trans (S' := fun k => row = some k) ⟨hg.os, hg.tape, hg.output, hg.size, fun k hk hn => hg.block k hk (fun e => hn e.symm)⟩ (fun b hb x => hr b x hb)
theorem Fr.cell (h : Fr S w w') {p : Addr} (hp : p.block < w.heap.size) (hn : ¬ S p.block) : w'.cell? p = w.cell? p := World.cell?_of_block (h.block _ hp hn)
theorem Fr.frozen (h : Fr S w w') {p : Addr} (hp : p.block < w.heap.size) (hn : ¬ S p.block) : w'.frozen? p = w.frozen? p := World.frozen?_of_block (h.block _ hp hn)
theorem Fr.below (h : Fr S w w') {B : Nat} (hB : B ≤ w.heap.size) (hs : ∀ k, k < B → ¬ S k) : Below B w w' :=
  ⟨h.os, h.tape, h.output, h.size, fun k hk => h.block k (by omega) (hs k hk)⟩
theorem Fr.of_below (h : Below w.heap.size w w') : Fr S w w' := ⟨h.os, h.tape, h.output, h.size, fun k hk _ => h.block k hk⟩
end

/-- Block g is just these cells, none frozen. -/
def Blk (w : World) (g : Nat) (t : TypeId) (cs : List Value) : Prop := w.heap[g]? = some (.cells cs.toArray t (0, 0))
section
variable {S : Nat → Prop} {w w' : World} {g : Nat} {t : TypeId} {cs : List Value}
theorem Blk.lt (h : Blk w g t cs) : g < w.heap.size := lt_of_block h
theorem Blk.cell (h : Blk w g t cs) (i : Nat) : w.cell? ⟨g, i, none⟩ = cs[i]? := by
  have := cell_of_row w g i cs.toArray t (0, 0) h
  simpa using this
theorem Blk.cellAt (h : Blk w g t cs) {i : Nat} {v : Value} (hv : cs[i]? = some v) : w.cell? ⟨g, i, none⟩ = some v := (h.cell i).trans hv
theorem Blk.free (h : Blk w g t cs) (i : Nat) : w.frozen? ⟨g, i, none⟩ = false := frozen_of_row w g i cs.toArray t h
theorem Blk.new (w : World) (t : TypeId) (cs : List Value) : Blk (w.alloc (.cells cs.toArray t)) w.heap.size t cs := heap_alloc_new w _
theorem Blk.drew (h : Blk w g t cs) : Blk w.drew g t cs := h
theorem Blk.drewN (h : Blk w g t cs) (n : Nat) : Blk (w.drewN n) g t cs := h
theorem Blk.alloc (h : Blk w g t cs) (o : Obj) : Blk (w.alloc o) g t cs := (Below.heap_alloc w o g h.lt).trans h
theorem Blk.store (h : Blk w g t cs) (i : Nat) (u : Value) : Blk (w.setCell ⟨g, i, none⟩ u) g t (cs.set i u) := by
  have := heap_setCell_same w g i cs.toArray t u h
  unfold Blk
  rw [this]
  simp
theorem Blk.far (h : Blk w g t cs) {p : Addr} (hp : g ≠ p.block) (u : Value) : Blk (w.setCell p u) g t cs := (Below.heap_setCell w p u g hp).trans h
theorem Blk.fr (h : Blk w g t cs) (hf : Fr S w w') (hn : ¬ S g) : Blk w' g t cs := (hf.block g h.lt hn).trans h
theorem Blk.ne {g' : Nat} {t' : TypeId} {cs' : List Value} (h : Blk w g t cs) (h' : Blk w g' t' cs') (hne : t ≠ t') : g ≠ g' := by
  rintro rfl
  unfold Blk at h h'
  rw [h] at h'
  injection h' with h'
  injection h' with _ ht
  exact hne ht
end

/-- The slice at A, of n bytes, reads as bs. -/
def RdB (w : World) (A : Option Addr) (n : Nat) (bs : List By) : Prop :=
  bs.length = n ∧ (0 < n → ∃ b o, A = some ⟨b, o, none⟩ ∧ ∀ j, j < n → w.cell? ⟨b, o + j, none⟩ = some (.int .u8 (bI (bs.getD j 0))))
/-- It lies in no block of S, and in an old one. -/
def Off (S : Nat → Prop) (w : World) (A : Option Addr) : Prop := ∀ a, A = some a → a.block < w.heap.size ∧ ¬ S a.block
section
variable {S S' : Nat → Prop} {w w' : World} {A : Option Addr} {n : Nat} {bs : List By}
theorem RdB.nil : RdB w A 0 [] := ⟨rfl, fun h => by omega⟩
theorem RdB.lt (h : RdB w A n bs) : ∀ b o, A = some ⟨b, o, none⟩ → 0 < n → b < w.heap.size := by
  intro b o e hn
  obtain ⟨b', o', e', hc⟩ := h.2 hn
  rw [e] at e'; cases e'
  exact block_lt_of_cell (hc 0 hn)
theorem RdB.fr (h : RdB w A n bs) (hf : Fr S w w') (hn : ∀ b o, A = some ⟨b, o, none⟩ → ¬ S b) : RdB w' A n bs := by
  refine ⟨h.1, fun h0 => ?_⟩
  obtain ⟨b, o, e, hc⟩ := h.2 h0
  exact ⟨b, o, e, fun j hj => (hf.cell (p := ⟨b, o + j, none⟩) (h.lt b o e h0) (hn b o e)).trans (hc j hj)⟩
end

/-- The table of constants lies where the program's text lays it. -/
def GK (w : World) : Prop := ∃ t fr, w.heap[0]? = some (.cells ((kC.map fun x => Value.int .u32 (uI x)).toArray) t fr)
theorem GK.lt {w : World} (h : GK w) : 0 < w.heap.size := by obtain ⟨t, fr, h⟩ := h; exact lt_of_block h
theorem GK.fr {S : Nat → Prop} {w w' : World} (h : GK w) (hf : Fr S w w') (hn : ¬ S 0) : GK w' := by
  obtain ⟨t, fr, hh⟩ := h
  exact ⟨t, fr, (hf.block 0 (lt_of_block hh) hn).trans hh⟩
end Go.Proofs.YtelhoejoncnccaaDoor
