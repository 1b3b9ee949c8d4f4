/- Rows of bytes that a call owns: reading, appending, cutting. -/
import Derived.Maps.AppendAt
import Derived.Test.YtelhoejoncnccaaDoorB3
import Derived.Test.YtelhoejoncnccaaDoorB5
namespace Go.Proofs.YtelhoejoncnccaaDoor
open Go Go.RowKit

theorem Fr.at_ {b : Nat} {w w' : World} (h : Fr (only b) w w') (i : Nat) (u : Value) : Fr (only b) w (w'.setCell ⟨b, i, none⟩ u) := h.setCell (p := ⟨b, i, none⟩) (fun _ => rfl) u
theorem Fr.one (w : World) (b i : Nat) (u : Value) : Fr (only b) w (w.setCell ⟨b, i, none⟩ u) := (Fr.refl (only b) w).at_ i u
/-- The slice v begins at the head of a row of bytes that may be written; it holds bs. -/
def OwB (w : World) (v : Value) (bs : List By) : Prop := w.ownsRow 0 5 1 v bs.length (bs.map bV)
def inBlk (v : Value) (k : Nat) : Prop := v.ownBlock = some k
section
variable {S : Nat → Prop} {w w' : World} {v : Value} {bs : List By} {A : Option Addr} {n c : Nat}
theorem OwB.nil (w : World) : OwB w (.slice none 0 0) [] := World.ownsRow_nil w 0 5 1
theorem OwB.form (h : OwB w v bs) : (v = .slice none 0 0 ∧ bs = []) ∨ ∃ g cap cur, v = .slice (some ⟨g, 0, none⟩) bs.length cap ∧ Blk w g 5 cur ∧ bs.length ≤ cap ∧ cap ≤ maxLen ∧ cur.length = cap ∧ cur.take bs.length = bs.map bV := by
  rcases h.2 with ⟨rfl, hn⟩ | ⟨g, cap, cur, rfl, _, hg, hn, hc, hs, ht⟩
  · exact .inl ⟨rfl, List.eq_nil_of_length_eq_zero hn⟩
  · exact .inr ⟨g, cap, cur.toList, rfl, by simpa [Blk] using hg, hn, hc, by simpa using hs, by simpa using ht⟩
theorem OwB.mk {g cap : Nat} {cur : List Value} (hB : Blk w g 5 cur) (hn : bs.length ≤ cap) (hc : cap ≤ maxLen) (hs : cur.length = cap) (ht : cur.take bs.length = bs.map bV) :
    OwB w (.slice (some ⟨g, 0, none⟩) bs.length cap) bs :=
  ⟨by simp, .inr ⟨g, cap, cur.toArray, rfl, Nat.zero_le _, hB, hn, hc, by simpa using hs, by simpa using ht⟩⟩
theorem OwB.slice (h : OwB w v bs) : ∃ A cap, v = .slice A bs.length cap ∧ bs.length ≤ cap ∧ cap ≤ maxLen := by
  rcases h.form with ⟨rfl, rfl⟩ | ⟨g, cap, cur, rfl, _, h1, h2, _⟩
  · exact ⟨none, 0, rfl, Nat.le_refl _, Nat.zero_le _⟩
  · exact ⟨_, _, rfl, h1, h2⟩
theorem OwB.lt (h : OwB w v bs) : ∀ k, inBlk v k → k < w.heap.size := fun k hk => (World.ownsRow.lt h k hk).2
theorem OwB.fr (h : OwB w v bs) (hf : Fr S w w') (hn : ∀ k, inBlk v k → ¬ S k) : OwB w' v bs := by
  rcases h.form with ⟨rfl, rfl⟩ | ⟨g, cap, cur, rfl, hB, h1, h2, h3, h4⟩
  · exact OwB.nil w'
  · exact OwB.mk (hB.fr hf (hn g rfl)) h1 h2 h3 h4
theorem OwB.ne {g : Nat} {t : TypeId} {cs : List Value} (h : OwB w v bs) (hg : Blk w g t cs) (ht : 5 ≠ t) : ¬ inBlk v g := by
  rcases h.form with ⟨rfl, rfl⟩ | ⟨g', cap, cur, rfl, hB, _⟩
  · intro e; cases e
  · intro e
    have : g' = g := by simpa [inBlk, Value.ownBlock] using e
    exact hB.ne hg ht this
theorem OwB.rd (h : OwB w v bs) {A : Option Addr} {n c : Nat} (hv : v = .slice A n c) : RdB w A n bs ∧ ∀ b o, A = some ⟨b, o, none⟩ → inBlk v b := by
  subst hv
  rcases h.form with ⟨e, rfl⟩ | ⟨g, cap, cur, e, hB, h1, h2, h3, h4⟩
  · cases e; exact ⟨RdB.nil, fun b o e => by cases e⟩
  · cases e
    refine ⟨⟨rfl, fun _ => ⟨g, 0, rfl, fun j hj => ?_⟩⟩, fun b o e => by cases e; rfl⟩
    have : (cur.take bs.length)[j]? = (bs.map bV)[j]? := by rw [h4]
    rw [List.getElem?_take, if_pos hj, List.getElem?_map, List.getElem?_eq_getElem hj] at this
    rw [Nat.zero_add, hB.cell, this]
    simp [bV, hj]
/-- 'v[:k]'. -/
theorem OwB.front (h : OwB w (.slice A n c) bs) {k : Nat} (hk : k ≤ bs.length) : OwB w (.slice A k c) (bs.take k) := by
  rcases h.form with ⟨e, rfl⟩ | ⟨g, cap, cur, e, hB, h1, h2, h3, h4⟩
  · cases e
    have : k = 0 := by simpa using hk
    subst this
    exact OwB.nil w
  · cases e
    have hl : (bs.take k).length = k := by simp; omega
    have := OwB.mk (bs := bs.take k) hB (by omega) h2 h3 (by rw [hl, List.map_take, ← h4, List.take_take, Nat.min_eq_left hk])
    rwa [hl] at this
theorem RdB.news {A : Option Addr} {n : Nat} (h : RdB w A n bs) (ad : Addr) (hA : A = some ad) (hn : 0 < n) : ∀ (j : Nat) (u : Value), (bs.map bV)[j]? = some u → w.cell? (ad.add j) = some u := by
  intro j u hu
  obtain ⟨b, o, e, hc⟩ := h.2 hn
  rw [hA] at e
  cases e
  have hj : j < bs.length := by have := (List.getElem?_eq_some_iff.1 hu).1; simpa using this
  rw [Addr.add_lit, hc j (by rw [← h.1]; exact hj)]
  rw [← hu]
  simp [bV, hj]
theorem RdB.fr' {A : Option Addr} {n : Nat} (h : RdB w A n bs) (hf : Fr S w w') (hn : 0 < n → ∀ b o, A = some ⟨b, o, none⟩ → ¬ S b) : RdB w' A n bs := by
  rcases Nat.eq_zero_or_pos n with h0 | h0
  · exact ⟨h.1, fun x => by omega⟩
  · exact h.fr hf (hn h0)
theorem bV_one (bs : List By) : ∀ u ∈ bs.map bV, u.oneCell' = true := by
  intro u hu
  obtain ⟨_, _, rfl⟩ := List.mem_map.1 hu
  rfl
theorem run_append_nothing {P : Program} (w : World) (t ty e : TypeId) (i : TypeInfo) (ht : P.underlying t = some (.slice e)) (hi : P.info? e = some i)
    {A : Option Addr} {n cap : Nat} (hn : n ≤ cap) (A' : Option Addr) (c : Nat) : (Builtin.append_ #[t, t] ty #[.slice A n cap, .slice A' 0 c]).run P w = .ok (.slice A n cap) w := by
  cases A' <;> cases A <;> simp [Builtin.append_, run_underlying ht, sizeOf, typeInfo, hi, Builtin.lenOf, Builtin.firstCells, loadCells, loadCellsFrom, hn, storeCells]
theorem run_append_bytes {P : Program} (w : World) (t ty : TypeId) (i : TypeInfo) (ht : P.underlying t = some (.slice 5)) (hi : P.info? 5 = some i) (hz : i.zero = some (.int .u8 0)) (hs : i.size = 1) (hb : i.bytes = 1)
    (v : Value) (xs : List By) (hown : OwB w v xs) (A : Option Addr) (m c : Nat) (bs : List By) (hr : RdB w A m bs) (hm : xs.length + m ≤ 140737488355328) :
    ∃ v' w', (Builtin.append_ #[t, t] ty #[v, .slice A m c]).run P w = .ok v' w' ∧ OwB w' v' (xs ++ bs) ∧ Fr (inBlk v) w w' ∧ (∀ k, inBlk v' k → inBlk v k ∨ w.heap.size ≤ k) := by
  rcases Nat.eq_zero_or_pos m with rfl | h0
  · have hbs : bs = [] := List.eq_nil_of_length_eq_zero hr.1
    subst hbs
    obtain ⟨A0, cap, rfl, hc, _⟩ := hown.slice
    exact ⟨_, w, run_append_nothing w t ty 5 i ht hi hc A c, by simpa using hown, Fr.refl _ _, fun k hk => .inl hk⟩
  · obtain ⟨b, o, rfl, hc⟩ := hr.2 h0
    obtain ⟨v', w', hrun, h2, h3, _, h5⟩ := run_append_own_at (P := P) w 0 t ty 5 i (.int .u8 0) 1 1 ht hi hz hs hb rfl (by decide) v xs.length (xs.map bV) hown ⟨b, o, none⟩ m c (bs.map bV) (by simp [hr.1]) (hr.news _ rfl h0) (bV_one bs)
      (by simp only [maxLen]; omega) (by omega) (Nat.zero_le _)
    refine ⟨v', w', hrun, ?_, ⟨h3.os, h3.tape, h3.output, h3.size, fun k hk hn => h3.block k hk (fun e => hn e.symm)⟩, fun k hk => ?_⟩
    · unfold OwB
      rw [List.length_append, List.map_append, hr.1]
      exact h2
    · rcases h5 with h5 | h5
      · exact .inl (by unfold inBlk at *; rw [← h5]; exact hk)
      · right
        have : some w.heap.size = some k := by unfold inBlk at hk; rw [← h5]; exact hk
        cases this
        exact Nat.le_refl _
theorem wpList_append_bytes {P : Program} (w : World) {ops : Array Oper} {rest : List Oper} {o : Oper} {a : Act} {Q : Exit → Act → World → Prop} (hgd : o.guard = none) (s x : Operand) (t : TypeId)
    (ho : o.op = .call { callee := .builtin .append, args := #[s, x], argTypes := #[t, t] }) (i : TypeInfo) (ht : P.underlying t = some (.slice 5)) (hi : P.info? 5 = some i) (hz : i.zero = some (.int .u8 0)) (hs : i.size = 1) (hb : i.bytes = 1)
    (v : Value) (hv : a.eval s = v) (xs : List By) (hown : OwB w v xs) (A : Option Addr) (m c : Nat) (bs : List By) (hx : a.eval x = .slice A m c) (hr : RdB w A m bs) (hm : xs.length + m ≤ 140737488355328)
    (h : ∀ v' w', OwB w' v' (xs ++ bs) → Fr (inBlk v) w w' → (∀ k, inBlk v' k → inBlk v k ∨ w.heap.size ≤ k) → wpList P ops Q rest (a.put o.dst v') w') : wpList P ops Q (o :: rest) a w := by
  refine wpList_plain hgd fun K hK => ?_
  obtain ⟨v', w', hrun, h2, h3, h4⟩ := run_append_bytes (P := P) w t o.type i ht hi hz hs hb v xs hown A m c bs hr hm
  unfold Oper.wp execOp
  simp only [ho, resolve, invoke, builtin, Sem.run_bind, Sem.run_pure, Result.andThen_ok, List.map_toArray, List.map_cons, List.map_nil, hv, hx, hrun]
  exact hK _ _ (h v' w' h2 h3 h4)
/-- The same as one step of a region that draws. -/
theorem step_append_bytes {P : Program} {w : World} {ops : Array Oper} {o : Oper} {a : Act} {K : Act → World → Prop} {Q : Exit → Act → World → Prop} {E : Prop} (hgd : o.guard = none) (s x : Operand) (t : TypeId)
    (ho : o.op = .call { callee := .builtin .append, args := #[s, x], argTypes := #[t, t] }) (i : TypeInfo) (ht : P.underlying t = some (.slice 5)) (hi : P.info? 5 = some i) (hz : i.zero = some (.int .u8 0)) (hs : i.size = 1) (hb : i.bytes = 1)
    (v : Value) (hv : a.eval s = v) (xs : List By) (hown : OwB w v xs) (A : Option Addr) (m c : Nat) (bs : List By) (hx : a.eval x = .slice A m c) (hr : RdB w A m bs) (hm : xs.length + m ≤ 140737488355328)
    (h : ∀ A1 c1 w', OwB w' (.slice A1 (xs.length + m) c1) (xs ++ bs) → Fr (inBlk v) w w' → (∀ k, inBlk (.slice A1 (xs.length + m) c1) k → inBlk v k ∨ w.heap.size ≤ k) → K (a.put o.dst (.slice A1 (xs.length + m) c1)) w') :
    if Region.wanted o (yielded ops a.tmps) = true then Oper.wp P o a w K Q else E := by
  have hw : Region.wanted o (yielded ops a.tmps) = true := by simp [Region.wanted, hgd]
  rw [if_pos hw]
  obtain ⟨v', w', hrun, h2, h3, h4⟩ := run_append_bytes (P := P) w t o.type i ht hi hz hs hb v xs hown A m c bs hr hm
  obtain ⟨A1, c1, hv', _, _⟩ := h2.slice
  have hl : (xs ++ bs).length = xs.length + m := by rw [List.length_append, hr.1]
  rw [hl] at hv'
  subst hv'
  unfold Oper.wp execOp
  simp only [ho, resolve, invoke, builtin, Sem.run_bind, Sem.run_pure, Result.andThen_ok, List.map_toArray, List.map_cons, List.map_nil, hv, hx, hrun]
  exact h A1 c1 w' h2 h3 h4
/-- 'b[k:]'. -/
theorem RdB.cut {A : Option Addr} {n c k : Nat} (h : RdB w A n bs) (hk : k ≤ n) (hc : n ≤ c) : RdB w (if c = k then A else A.map fun a => a.add (k * 1)) (n - k) (bs.drop k) := by
  refine ⟨by rw [List.length_drop, h.1], fun h0 => ?_⟩
  obtain ⟨b, o, rfl, hcell⟩ := h.2 (by omega)
  rw [if_neg (by omega)]
  refine ⟨b, o + k, by simp [Addr.add_lit], fun j hj => ?_⟩
  rw [Nat.add_assoc, hcell (k + j) (by omega), List.getD_eq_getElem?_getD, List.getD_eq_getElem?_getD, List.getElem?_drop]
theorem RdB.front {A : Option Addr} {n k : Nat} (h : RdB w A n bs) (hk : k ≤ n) : RdB w A k (bs.take k) := by
  refine ⟨by rw [List.length_take, h.1]; omega, fun h0 => ?_⟩
  obtain ⟨b, o, rfl, hcell⟩ := h.2 (by omega)
  refine ⟨b, o, rfl, fun j hj => ?_⟩
  rw [hcell j (by omega), List.getD_eq_getElem?_getD, List.getD_eq_getElem?_getD, List.getElem?_take, if_pos hj]
end
end Go.Proofs.YtelhoejoncnccaaDoor
