/- Words and bytes: the model's numbers as bit vectors, and the arithmetic of SHA-256 in plain Lean. No program in sight. -/
import Derived.Laws.BitsLemmas
namespace Go.Proofs.YtelhoejoncnccaaDoor
open Go

/-- The model's number of a byte, of a word. -/
def bI (b : BitVec 8) : Int := b.toNat
def uI (x : BitVec 32) : Int := x.toNat
theorem bI_ge (b : BitVec 8) : 0 ≤ bI b := Int.natCast_nonneg _
theorem bI_lt (b : BitVec 8) : bI b < 256 := by have := b.isLt; unfold bI; omega
theorem uI_ge (b : BitVec 32) : 0 ≤ uI b := Int.natCast_nonneg _
theorem uI_lt (b : BitVec 32) : uI b < 4294967296 := by have := b.isLt; unfold uI; omega
theorem bI_inj {a b : BitVec 8} (h : bI a = bI b) : a = b := BitVec.eq_of_toNat_eq (by unfold bI at h; omega)
theorem uI_inj {a b : BitVec 32} (h : uI a = uI b) : a = b := BitVec.eq_of_toNat_eq (by unfold uI at h; omega)
theorem bI_beq (a b : BitVec 8) : (bI a == bI b) = (a == b) := by
  rw [Bool.eq_iff_iff, beq_iff_eq, beq_iff_eq]
  exact ⟨bI_inj, fun h => by rw [h]⟩
theorem wrap_bI (b : BitVec 8) : IntKind.u8.wrap (bI b) = bI b := by
  have := bI_ge b; have := bI_lt b
  rw [IntKind.wrap_u8]; omega
theorem wrap_uI (b : BitVec 32) : IntKind.u32.wrap (uI b) = uI b := by
  have := uI_ge b; have := uI_lt b
  rw [IntKind.wrap_u32]; omega
theorem wrap_u32_bI (b : BitVec 8) : IntKind.u32.wrap (bI b) = uI (b.setWidth 32) := by
  have := bI_ge b; have := bI_lt b
  rw [IntKind.wrap_u32]
  unfold uI bI at *
  rw [BitVec.toNat_setWidth]
  omega
theorem wrap_u8_uI (x : BitVec 32) : IntKind.u8.wrap (uI x) = bI (x.setWidth 8) := by
  rw [IntKind.wrap_u8]
  unfold uI bI
  rw [BitVec.toNat_setWidth]
  omega
theorem u32_add (a b : BitVec 32) : IntKind.u32.wrap (uI a + uI b) = uI (a + b) := by
  rw [IntKind.wrap_u32]; unfold uI; rw [BitVec.toNat_add]; omega
theorem bits_u (op : BinOp) (f : BitVec 32 → BitVec 32 → BitVec 32) (hf : ∀ a b : BitVec 32, bits op .u32 (uI a) (uI b) = IntKind.u32.wrap (f (BitVec.ofInt 32 (uI a)) (BitVec.ofInt 32 (uI b))).toNat)
    (a b : BitVec 32) : bits op .u32 (uI a) (uI b) = uI (f a b) := by
  have e : ∀ x : BitVec 32, BitVec.ofInt 32 (uI x) = x := fun x => by
    unfold uI; rw [BitVec.ofInt_natCast]; exact BitVec.eq_of_toNat_eq (by rw [BitVec.toNat_ofNat]; have := x.isLt; omega)
  rw [hf, e, e]
  exact wrap_uI _
theorem u32_xor (a b : BitVec 32) : bits .xor .u32 (uI a) (uI b) = uI (a ^^^ b) := bits_u .xor (· ^^^ ·) (fun _ _ => rfl) a b
theorem u32_and (a b : BitVec 32) : bits .and .u32 (uI a) (uI b) = uI (a &&& b) := bits_u .and (· &&& ·) (fun _ _ => rfl) a b
theorem u32_or (a b : BitVec 32) : bits .or .u32 (uI a) (uI b) = uI (a ||| b) := bits_u .or (· ||| ·) (fun _ _ => rfl) a b
theorem uI_shl (a : BitVec 32) (n : Nat) : uI a * 2 ^ n % 4294967296 = uI (a <<< n) := by
  unfold uI
  rw [BitVec.toNat_shiftLeft, Nat.shiftLeft_eq, Int.natCast_emod, Int.natCast_mul, Int.natCast_pow]
  rfl
theorem uI_shr (a : BitVec 32) (n : Nat) : uI a / 2 ^ n = uI (a >>> n) := by
  unfold uI
  rw [BitVec.toNat_ushiftRight, Nat.shiftRight_eq_div_pow, Int.natCast_ediv, Int.natCast_pow]
  rfl
theorem uI_lit (n : Nat) (h : n < 4294967296) : ((n : Nat) : Int) = uI (BitVec.ofNat 32 n) := by
  unfold uI; rw [BitVec.toNat_ofNat]; omega
theorem uI_zero : (0 : Int) = uI 0 := rfl

/-! ### SHA-256 -/
abbrev Wd := BitVec 32
abbrev By := BitVec 8
def rotr (x : Wd) (n : Nat) : Wd := (x >>> n) ||| (x <<< (32 - n))
theorem rotr_comm (x : Wd) (n : Nat) : (x <<< (32 - n)) ||| (x >>> n) = rotr x n := BitVec.or_comm _ _
def sg0 (x : Wd) : Wd := rotr x 7 ^^^ rotr x 18 ^^^ (x >>> 3)
def sg1 (x : Wd) : Wd := rotr x 17 ^^^ rotr x 19 ^^^ (x >>> 10)
def bs0 (x : Wd) : Wd := rotr x 2 ^^^ rotr x 13 ^^^ rotr x 22
def bs1 (x : Wd) : Wd := rotr x 6 ^^^ rotr x 11 ^^^ rotr x 25
/-- The word of four bytes. -/
def word4 (a b c d : By) : Wd := (((a.setWidth 32 <<< 24) ||| (b.setWidth 32 <<< 16)) ||| (c.setWidth 32 <<< 8)) ||| d.setWidth 32
def wordAt (bs : List By) (i : Nat) : Wd := word4 (bs.getD (4 * i) 0) (bs.getD (4 * i + 1) 0) (bs.getD (4 * i + 2) 0) (bs.getD (4 * i + 3) 0)
/-- The schedule of a block. -/
def sch (bs : List By) : Nat → List Wd
  | 0 => []
  | n + 1 =>
    let l := sch bs n
    l ++ [if n < 16 then wordAt bs n else l.getD (n - 16) 0 + l.getD (n - 7) 0 + sg0 (l.getD (n - 15) 0) + sg1 (l.getD (n - 2) 0)]
structure St where
  (a b c d e f g h : Wd)
def kC : List Wd := [
  0x428a2f98, 0x71374491, 0xb5c0fbcf, 0xe9b5dba5, 0x3956c25b, 0x59f111f1, 0x923f82a4, 0xab1c5ed5,
  0xd807aa98, 0x12835b01, 0x243185be, 0x550c7dc3, 0x72be5d74, 0x80deb1fe, 0x9bdc06a7, 0xc19bf174,
  0xe49b69c1, 0xefbe4786, 0x0fc19dc6, 0x240ca1cc, 0x2de92c6f, 0x4a7484aa, 0x5cb0a9dc, 0x76f988da,
  0x983e5152, 0xa831c66d, 0xb00327c8, 0xbf597fc7, 0xc6e00bf3, 0xd5a79147, 0x06ca6351, 0x14292967,
  0x27b70a85, 0x2e1b2138, 0x4d2c6dfc, 0x53380d13, 0x650a7354, 0x766a0abb, 0x81c2c92e, 0x92722c85,
  0xa2bfe8a1, 0xa81a664b, 0xc24b8b70, 0xc76c51a3, 0xd192e819, 0xd6990624, 0xf40e3585, 0x106aa070,
  0x19a4c116, 0x1e376c08, 0x2748774c, 0x34b0bcb5, 0x391c0cb3, 0x4ed8aa4a, 0x5b9cca4f, 0x682e6ff3,
  0x748f82ee, 0x78a5636f, 0x84c87814, 0x8cc70208, 0x90befffa, 0xa4506ceb, 0xbef9a3f7, 0xc67178f2]
def st0 : St := ⟨0x6a09e667, 0xbb67ae85, 0x3c6ef372, 0xa54ff53a, 0x510e527f, 0x9b05688c, 0x1f83d9ab, 0x5be0cd19⟩
def rnd1 (s : St) (k w : Wd) : Wd := s.h + bs1 s.e + ((s.e &&& s.f) ^^^ ((~~~ s.e) &&& s.g)) + k + w
def rnd2 (s : St) : Wd := bs0 s.a + (((s.a &&& s.b) ^^^ (s.a &&& s.c)) ^^^ (s.b &&& s.c))
def rnd (s : St) (k w : Wd) : St := ⟨rnd1 s k w + rnd2 s, s.a, s.b, s.c, s.d + rnd1 s k w, s.e, s.f, s.g⟩
def rnds (bs : List By) (s : St) : Nat → St
  | 0 => s
  | t + 1 => rnd (rnds bs s t) (kC.getD t 0) ((sch bs 64).getD t 0)
def St.add (s t : St) : St := ⟨s.a + t.a, s.b + t.b, s.c + t.c, s.d + t.d, s.e + t.e, s.f + t.f, s.g + t.g, s.h + t.h⟩
def blk (s : St) (bs : List By) : St := s.add (rnds bs s 64)
def St.words (s : St) : List Wd := [s.a, s.b, s.c, s.d, s.e, s.f, s.g, s.h]

theorem sch_length (bs : List By) (n : Nat) : (sch bs n).length = n := by
  induction n with
  | zero => rfl
  | succ n ih => simp [sch, ih]
theorem sch_stable (bs : List By) {m n i : Nat} (hi : i < m) (hmn : m ≤ n) : (sch bs n).getD i 0 = (sch bs m).getD i 0 := by
  induction hmn with
  | refl => rfl
  | step h ih =>
    rename_i k
    have hk : m ≤ k := h
    rw [← ih]
    simp only [sch, List.getD]
    rw [List.getElem?_append_left (by rw [sch_length]; omega)]
/-- The word at place i of the schedule. -/
def sw (bs : List By) (i : Nat) : Wd := (sch bs (i + 1)).getD i 0
theorem sch_getD (bs : List By) {n i : Nat} (h : i < n) : (sch bs n).getD i 0 = sw bs i := sch_stable bs (by omega) (by omega)
theorem sw_lo (bs : List By) {i : Nat} (h : i < 16) : sw bs i = wordAt bs i := by
  simp only [sw, sch, List.getD]
  rw [List.getElem?_append_right (by rw [sch_length]; omega), sch_length]
  simp [h]
theorem sw_hi (bs : List By) {i : Nat} (h : 16 ≤ i) : sw bs i = sw bs (i - 16) + sw bs (i - 7) + sg0 (sw bs (i - 15)) + sg1 (sw bs (i - 2)) := by
  rw [← sch_getD bs (n := i) (i := i - 16) (by omega), ← sch_getD bs (n := i) (i := i - 7) (by omega), ← sch_getD bs (n := i) (i := i - 15) (by omega), ← sch_getD bs (n := i) (i := i - 2) (by omega)]
  conv => lhs; simp only [sw, sch, List.getD]
  rw [List.getElem?_append_right (by rw [sch_length]; omega), sch_length]
  simp [show ¬ i < 16 by omega]

/-- All blocks of a message, from a state on. -/
def blks (s : St) (p : List By) : Nat → St
  | 0 => s
  | n + 1 => blks (blk s (p.take 64)) (p.drop 64) n
def run (s : St) (p : List By) : St := blks s p (p.length / 64)
/-- A number as eight bytes, the highest first. -/
def be8 (n : Nat) : List By := (List.range 8).map fun i => BitVec.ofNat 8 (n / 2 ^ (56 - 8 * i))
def zeros (n : Nat) : Nat := (119 - n % 64) % 64
def padOf (n : Nat) : List By := [128] ++ List.replicate (zeros n) 0 ++ be8 (8 * n)
def padded (b : List By) : List By := b ++ padOf b.length
def wordBytes (x : Wd) : List By := [(x >>> 24).setWidth 8, (x >>> 16).setWidth 8, (x >>> 8).setWidth 8, x.setWidth 8]
def digest (s : St) : List By := s.words.flatMap wordBytes
def sha (b : List By) : List By := digest (run st0 (padded b))
theorem sha_nil0 : (sha []).getD 0 0 = 0xe3 := by decide +kernel
theorem sha_nil1 : (sha []).getD 1 0 = 0xb0 := by decide +kernel
theorem sha_abc0 : (sha [97, 98, 99]).getD 0 0 = 0xba := by decide +kernel
theorem sha_abc31 : (sha [97, 98, 99]).getD 31 0 = 0xad := by decide +kernel
end Go.Proofs.YtelhoejoncnccaaDoor
