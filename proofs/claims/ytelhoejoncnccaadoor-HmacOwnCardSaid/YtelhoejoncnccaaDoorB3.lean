/- Small laws for the walks over SHA-256: the arithmetic of a round as the walk spells it; an index into an array's value; what two quiet regions in a row leave. -/
import Derived.Test.YtelhoejoncnccaaDoorB1
import Derived.Test.YtelhoejoncnccaaDoorBQ
import Derived.Lib.Hide
namespace Go.Proofs.YtelhoejoncnccaaDoor
open Go Go.RowKit

def uV (x : Wd) : Value := .int .u32 (uI x)
def bV (x : By) : Value := .int .u8 (bI x)
theorem word4_eq (a b c d : By) : bits .or .u32 (bits .or .u32 (bits .or .u32 (uI (a.setWidth 32) * 16777216 % 4294967296) (uI (b.setWidth 32) * 65536 % 4294967296)) (uI (c.setWidth 32) * 256 % 4294967296)) (uI (d.setWidth 32)) = uI (word4 a b c d) := by
  rw [show (16777216 : Int) = 2 ^ 24 by decide, show (65536 : Int) = 2 ^ 16 by decide, show (256 : Int) = 2 ^ 8 by decide, uI_shl, uI_shl, uI_shl, u32_or, u32_or, u32_or]
  rfl
theorem uI_shr3 (x : Wd) : uI x / (8 : Int) = uI (x >>> 3) := uI_shr x 3
theorem uI_shr10 (x : Wd) : uI x / (1024 : Int) = uI (x >>> 10) := uI_shr x 10
theorem u32_not (a : BitVec 32) : bits .xor .u32 IntKind.u32.max (uI a) = uI (~~~ a) := by
  have h : (IntKind.u32.max) = uI (BitVec.allOnes 32) := by decide
  rw [h, u32_xor, BitVec.allOnes_xor]
theorem uI_add (a b : BitVec 32) : uI (a + b) = (uI a + uI b) % 4294967296 := by rw [← u32_add, IntKind.wrap_u32]
theorem sched_eq (a b x y : Wd) : ((uI (a + b) + bits .xor .u32 (uI (rotr x 7 ^^^ rotr x 18)) (uI x / 8)) + bits .xor .u32 (uI (rotr y 17 ^^^ rotr y 19)) (uI y / 1024)) % 4294967296 = uI (a + b + sg0 x + sg1 y) := by
  rw [uI_shr3, uI_shr10, u32_xor, u32_xor]
  unfold sg0 sg1
  rw [uI_add (a + b + _), uI_add (a + b)]
  omega
theorem rnd1_eq (x : St) (k w : Wd) : (uI (x.h + (rotr x.e 6 ^^^ rotr x.e 11 ^^^ rotr x.e 25)) + uI (x.e &&& x.f ^^^ ~~~x.e &&& x.g) + uI k + uI w) % 4294967296 = uI (rnd1 x k w) := by
  unfold rnd1 bs1
  simp only [uI_add]
  omega
theorem rnd12_eq (x : St) (k w : Wd) : (uI (x.h + (rotr x.e 6 ^^^ rotr x.e 11 ^^^ rotr x.e 25)) + uI (x.e &&& x.f ^^^ ~~~x.e &&& x.g) + uI k + uI w +
    uI ((rotr x.a 2 ^^^ rotr x.a 13 ^^^ rotr x.a 22) + (x.a &&& x.b ^^^ x.a &&& x.c ^^^ x.b &&& x.c))) % 4294967296 = uI (rnd1 x k w + rnd2 x) := by
  rw [uI_add (rnd1 x k w), ← rnd1_eq]
  unfold rnd2 bs0
  omega
theorem rnd1d_eq (x : St) (k w : Wd) : (uI x.d + (uI (x.h + (rotr x.e 6 ^^^ rotr x.e 11 ^^^ rotr x.e 25)) + uI (x.e &&& x.f ^^^ ~~~x.e &&& x.g) + uI k + uI w)) % 4294967296 = uI (x.d + rnd1 x k w) := by
  rw [uI_add x.d, ← rnd1_eq]
  omega
theorem quiet_add {P : Program} {f : FuncId} {args : Array Value} {w : World} {n m : Nat} {v : Value}
    (h : Calls P f args (w.drewN (n + m)) fun e w' => e = .returned v ∧ w' = w.drewN (n + m)) : Calls P f args (w.drewN (n + m)) fun e w'' => e = .returned v ∧ ∃ k, w'' = w.drewN (n + k) :=
  h.mono fun _ _ ⟨he, hm⟩ => ⟨he, m, hm⟩
theorem run_index_agg {P : Program} (w : World) (ty e : TypeId) (n : Nat) (i : TypeInfo) (hu : P.underlying ty = some (.array n e)) (hi : P.info? e = some i) (hs : i.size = 1) (hag : (isAgg e).run P w = .ok false w)
    (cs : Array Value) (k : IntKind) (I : Int) (h0 : 0 ≤ I) (hn : I < n) (v : Value) (hv : cs[I.toNat]? = some v) :
    (Instr.index ty (.agg cs) (.int k I)).run P w = .ok v w := by
  simp [Instr.index, asIntOf, run_underlying hu, h0, hn, sizeOf, typeInfo, hi, hs, part, hag, hv]

def KA : Array Value := (kC.map fun x => Value.int .u32 (uI x)).toArray
theorem KA_get {t : Nat} (h : t < 64) : KA[t]? = some (.int .u32 (uI (kC.getD t 0))) := by
  have hl : kC.length = 64 := rfl
  simp [KA, h, hl]
def heads (s : St) (rest nv : Value) : List Value := [.int .u32 (uI s.a), .int .u32 (uI s.b), .int .u32 (uI s.c), .int .u32 (uI s.d), .int .u32 (uI s.e), .int .u32 (uI s.f), .int .u32 (uI s.g), .int .u32 (uI s.h), rest, nv]
def eight (s : St) : List Value := [.int .u32 (uI s.a), .int .u32 (uI s.b), .int .u32 (uI s.c), .int .u32 (uI s.d), .int .u32 (uI s.e), .int .u32 (uI s.f), .int .u32 (uI s.g), .int .u32 (uI s.h)]
/-- The first j words of the state x added to those of s. -/
def mixed (s x : St) (j : Nat) : St :=
  ⟨if 0 < j then s.a + x.a else s.a, if 1 < j then s.b + x.b else s.b, if 2 < j then s.c + x.c else s.c, if 3 < j then s.d + x.d else s.d,
   if 4 < j then s.e + x.e else s.e, if 5 < j then s.f + x.f else s.f, if 6 < j then s.g + x.g else s.g, if 7 < j then s.h + x.h else s.h⟩
theorem mixed_zero (s x : St) : mixed s x 0 = s := rfl
theorem mixed_eight (s x : St) : mixed s x 8 = s.add x := rfl
theorem mixed_step (s x : St) (rest nv : Value) {j : Nat} (h : j < 8) :
    (heads (mixed s x (j + 1)) rest nv) = (heads (mixed s x j) rest nv).set j (.int .u32 (uI (s.words.getD j 0 + x.words.getD j 0))) := by
  match j, h with
  | 0, _ => rfl
  | 1, _ => rfl
  | 2, _ => rfl
  | 3, _ => rfl
  | 4, _ => rfl
  | 5, _ => rfl
  | 6, _ => rfl
  | 7, _ => rfl
theorem mixed_at (s x : St) (rest nv : Value) {j : Nat} (h : j < 8) : (heads (mixed s x j) rest nv)[j]? = some (.int .u32 (uI (s.words.getD j 0))) := by
  match j, h with
  | 0, _ => rfl
  | 1, _ => rfl
  | 2, _ => rfl
  | 3, _ => rfl
  | 4, _ => rfl
  | 5, _ => rfl
  | 6, _ => rfl
  | 7, _ => rfl
theorem eight_at (x : St) {j : Nat} (h : j < 8) : (eight x)[j]? = some (.int .u32 (uI (x.words.getD j 0))) := by
  match j, h with
  | 0, _ => rfl
  | 1, _ => rfl
  | 2, _ => rfl
  | 3, _ => rfl
  | 4, _ => rfl
  | 5, _ => rfl
  | 6, _ => rfl
  | 7, _ => rfl
theorem eight_one (x : St) : ∀ v ∈ (eight x).take 7, v.oneCell' = true := by
  intro v hv
  simp only [eight, List.take, List.mem_cons, List.not_mem_nil, or_false] at hv
  rcases hv with rfl | rfl | rfl | rfl | rfl | rfl | rfl <;> rfl
end Go.Proofs.YtelhoejoncnccaaDoor
