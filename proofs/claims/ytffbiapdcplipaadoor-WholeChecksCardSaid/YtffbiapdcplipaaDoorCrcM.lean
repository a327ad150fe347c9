/-
  The plain arithmetic of the sums of texts: one bit, one byte, a list of bytes; over numbers alone.
-/
import Derived.Laws.BitsAllLaws
import Derived.WalkKit
namespace Go.Proofs.YtffbiapdcplipaaDoor
namespace Crc

def poly : Nat := 3988292384
def bit1 (c : Nat) : Nat := if c % 2 = 1 then (c / 2) ^^^ 3988292384 else c / 2
def bits8 : Nat → Nat → Nat
  | 0, c => c
  | n + 1, c => bit1 (bits8 n c)
def byte1 (c : Nat) (b : UInt8) : Nat := bits8 8 (c ^^^ b.toNat)
def sumN (c : Nat) (l : List UInt8) : Nat := l.foldl byte1 c
def moreN (c : Nat) (l : List UInt8) : Nat := 4294967295 ^^^ sumN (4294967295 ^^^ c) l

theorem bit1_lt (c : Nat) (h : c < 4294967296) : bit1 c < 4294967296 := by
  unfold bit1
  split
  · exact Nat.xor_lt_two_pow (n := 32) (by omega) (by omega)
  · omega
theorem bits8_lt (n c : Nat) (h : c < 4294967296) : bits8 n c < 4294967296 := by
  induction n with
  | zero => exact h
  | succ n ih => exact bit1_lt _ ih
theorem xorb_lt (c : Nat) (b : UInt8) (h : c < 4294967296) : c ^^^ b.toNat < 4294967296 := Nat.xor_lt_two_pow (n := 32) h (by have := b.toNat_lt; omega)
theorem byte1_lt (c : Nat) (b : UInt8) (h : c < 4294967296) : byte1 c b < 4294967296 := bits8_lt _ _ (xorb_lt c b h)
theorem sumN_lt (l : List UInt8) : ∀ (c : Nat), c < 4294967296 → sumN c l < 4294967296 := by
  induction l with
  | nil => intro c h; exact h
  | cons b l ih => intro c h; exact ih _ (byte1_lt c b h)
theorem not_lt (c : Nat) (h : c < 4294967296) : 4294967295 ^^^ c < 4294967296 := Nat.xor_lt_two_pow (n := 32) (by omega) h
theorem moreN_lt (c : Nat) (l : List UInt8) (h : c < 4294967296) : moreN c l < 4294967296 := not_lt _ (sumN_lt l _ (not_lt c h))
theorem not_not (c : Nat) : 4294967295 ^^^ (4294967295 ^^^ c) = c := by rw [← Nat.xor_assoc]; simp
theorem sumN_append (c : Nat) (l m : List UInt8) : sumN c (l ++ m) = sumN (sumN c l) m := by simp [sumN, List.foldl_append]
/-- Sums go on: the sum of one text behind another is the second's from the first's. -/
theorem moreN_append (c : Nat) (l m : List UInt8) : moreN c (l ++ m) = moreN (moreN c l) m := by
  unfold moreN; rw [sumN_append, not_not]
theorem sumN_snoc (c : Nat) (l : List UInt8) (b : UInt8) : sumN c (l ++ [b]) = byte1 (sumN c l) b := by rw [sumN_append]; rfl

/-- The program's step of one bit, without a branch, is the plain one. -/
theorem bit1_mask (c : Nat) :
    (c / 2) ^^^ (3988292384 &&& ((4294967296 - c % 2) % 4294967296)) = bit1 c := by
  unfold bit1
  have h2 : c % 2 = 0 ∨ c % 2 = 1 := by omega
  rcases h2 with h2 | h2
  · rw [h2]; simp
  · rw [h2]; simp
theorem take_snoc (s : ByteArray) (k : Nat) (h : k < s.size) : s.data.toList.take (k + 1) = s.data.toList.take k ++ [s[k]] := by
  rw [List.take_succ_eq_append_getElem (by simpa using h)]; rfl
theorem bit1_int (d : Nat) (hd : d < 4294967296) :
    bits BinOp.xor IntKind.u32 ((d : Int) / 2) (bits BinOp.and IntKind.u32 3988292384 (-bits BinOp.and IntKind.u32 (d : Int) 1 % 4294967296)) = ((bit1 d : Nat) : Int) := by
  have h1 : bits BinOp.and IntKind.u32 (d : Int) 1 = ((d % 2 : Nat) : Int) := by
    rw [show (1 : Int) = ((1 : Nat) : Int) from rfl, u32_and_nat d 1 hd (by omega), Nat.and_one_is_mod]
  have h2 : -(((d % 2 : Nat) : Int)) % 4294967296 = (((4294967296 - d % 2) % 4294967296 : Nat) : Int) := by omega
  have h3 : bits BinOp.and IntKind.u32 3988292384 (((4294967296 - d % 2) % 4294967296 : Nat) : Int) = ((3988292384 &&& ((4294967296 - d % 2) % 4294967296) : Nat) : Int) :=
    u32_and_nat 3988292384 _ (by omega) (by omega)
  have h4 : 3988292384 &&& ((4294967296 - d % 2) % 4294967296) < 4294967296 := Nat.lt_of_le_of_lt Nat.and_le_left (by omega)
  rw [h1, h2, h3, show ((d : Int) / 2) = ((d / 2 : Nat) : Int) from rfl, u32_xor_nat _ _ (by omega) h4, bit1_mask]
theorem bit1_odd (d : Nat) (hd : d < 4294967296) (h : d % 2 = 1) : bits BinOp.xor IntKind.u32 ((d : Int) / 2) 3988292384 = ((bit1 d : Nat) : Int) := by
  rw [show ((d : Int) / 2) = ((d / 2 : Nat) : Int) from rfl, show (3988292384 : Int) = ((3988292384 : Nat) : Int) from rfl, u32_xor_nat _ _ (by omega) (by omega)]
  unfold bit1; rw [if_pos h]
theorem bit1_even (d : Nat) (h : ¬ d % 2 = 1) : ((d : Int) / 2) = ((bit1 d : Nat) : Int) := by
  unfold bit1; rw [if_neg h]; rfl
end Crc
end Go.Proofs.YtffbiapdcplipaaDoor
