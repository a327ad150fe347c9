/-
  The four bytes of a sum, and the sum of four bytes: contracts of crc.Put, crc.Take, crc.Same and of the law's own fourBytes.
-/
import Derived.Test.YtffbiapdcplipaaDoorCrc
import Derived.Laws.BytesArg
namespace Go.Proofs.YtffbiapdcplipaaDoor
open Go.RowKit

def fourB (n : Int) : ByteArray := strOfNums [n % 256, n / 256 % 256, n / 65536 % 256, n / 16777216 % 256]
theorem fourB_mod (n : Int) : fourB (n % 4294967296) = fourB n := by
  unfold fourB
  rw [show n % 4294967296 % 256 = n % 256 by omega, show n % 4294967296 / 256 % 256 = n / 256 % 256 by omega,
    show n % 4294967296 / 65536 % 256 = n / 65536 % 256 by omega, show n % 4294967296 / 16777216 % 256 = n / 16777216 % 256 by omega]

/-- Four cells as a text. -/
theorem conv4 (w : World) (T : TypeId) (a b c d : Int) :
    (convert 32 9 (.slice (some ⟨w.heap.size, 0, none⟩) 4 4)).run Tryd.prog (w.alloc (.cells #[.int .u8 a, .int .u8 b, .int .u8 c, .int .u8 d] T)) =
      .ok (.string (strOfNums [a, b, c, d])) (w.alloc (.cells #[.int .u8 a, .int .u8 b, .int .u8 c, .int .u8 d] T)) := by
  refine run_convert_bytes_arg (P := Tryd.prog) _ 32 5 Tryd.underlying32 Tryd.underlying5 w.heap.size 0 4 4 [a, b, c, d] rfl ?_ 9 Tryd.underlying9
  intro i _
  have : i = 0 ∨ i = 1 ∨ i = 2 ∨ i = 3 := by omega
  rcases this with rfl | rfl | rfl | rfl <;> simp [go_sem]

set_option maxHeartbeats 400000 in
theorem put_any (sum : Int) (w : World) :
    Calls Tryd.prog 7 #[.int .i64 sum] w fun e w' => e = .returned (.string (fourB sum)) ∧ Below w.heap.size w w' := by
  have hcv := conv4 w
  go_enter Tryd.func7, Tryd.ntmps7
  go_wp2
  refine wp_loop_rounds 5 ?_
  rw [rounds_succ]; go_wp2
  rw [rounds_succ]; go_wp2
  rw [rounds_succ]; go_wp2
  rw [rounds_succ]; go_wp2
  rw [rounds_succ]; go_wp2
  go_ret
  exact ⟨rfl, (Below.refl _ _).alloc (Nat.le_refl _) _⟩
theorem four_any (n : Int) (w : World) :
    Calls Tryd.prog 8 #[.int .u32 n] w fun e w' => e = .returned (.string (fourB n)) ∧ Below w.heap.size w w' := by
  have hcv := conv4 w
  go_enter Tryd.func8, Tryd.ntmps8
  go_wp2
  go_ret
  exact ⟨rfl, (Below.refl _ _).alloc (Nat.le_refl _) _⟩


theorem bits_or_comm (k : IntKind) (x y : Int) : bits .or k x y = bits .or k y x := by
  simp only [bits]; rw [BitVec.or_comm]
theorem or_lo (i : Nat) (x y : Int) (_hi : i ≤ 63) (hx₀ : 0 ≤ x) (hx : x < 2 ^ i) (hy₀ : 0 ≤ y) (hy : y % 2 ^ i = 0) (hx₁ : x < 2 ^ 63) (hy₁ : y < 2 ^ 63) : bits .or .i64 x y = x + y := by
  rw [bits_or_comm, bits_join .i64 63 (by decide) (fun n h0 h1 => IntWalk.i64_in n (by omega)) i y x hy₀ hy hy₁ hx₀ hx hx₁, Int.add_comm]
theorem wr (x : Int) (h0 : 0 ≤ x) (h1 : x < 4294967296) : wrap64 x = x := by unfold wrap64; omega
/-- Four bytes as a number, the lowest first. -/
def four4 (a b c d : Nat) : Nat := a + b * 256 + c * 65536 + d * 16777216
theorem or4 (a b c d : Nat) (ha : a < 256) (hb : b < 256) (hc : c < 256) (hd : d < 256) :
    bits .or .i64 (bits .or .i64 (bits .or .i64 (wrap64 (a : Int)) (wrap64 (wrap64 (b : Int) * 256))) (wrap64 (wrap64 (c : Int) * 65536))) (wrap64 (wrap64 (d : Int) * 16777216)) = ((four4 a b c d : Nat) : Int) := by
  rw [wr (a : Int) (by omega) (by omega), wr (b : Int) (by omega) (by omega), wr (c : Int) (by omega) (by omega), wr (d : Int) (by omega) (by omega),
    wr ((b : Int) * 256) (by omega) (by omega), wr ((c : Int) * 65536) (by omega) (by omega), wr ((d : Int) * 16777216) (by omega) (by omega)]
  rw [or_lo 8 (a : Int) ((b : Int) * 256) (by omega) (by omega) (by omega) (by omega) (by omega) (by omega) (by omega)]
  rw [or_lo 16 ((a : Int) + (b : Int) * 256) ((c : Int) * 65536) (by omega) (by omega) (by omega) (by omega) (by omega) (by omega) (by omega)]
  rw [or_lo 24 ((a : Int) + (b : Int) * 256 + (c : Int) * 65536) ((d : Int) * 16777216) (by omega) (by omega) (by omega) (by omega) (by omega) (by omega) (by omega)]
  unfold four4; omega
theorem or0 (a : Nat) (ha : a < 256) : bits .or .i64 0 (wrap64 (wrap64 (a : Int))) = wrap64 (a : Int) := by
  rw [wr (a : Int) (by omega) (by omega), wr (a : Int) (by omega) (by omega), or_lo 0 0 (a : Int) (by omega) (by omega) (by omega) (by omega) (by omega) (by omega) (by omega)]
  omega
/-- The number of the first four bytes of a text. -/
def takeN (l : List UInt8) : Nat := four4 (l.getD 0 0).toNat (l.getD 1 0).toNat (l.getD 2 0).toNat (l.getD 3 0).toNat
theorem get_getD (s : ByteArray) (k : Nat) (h : k < s.size) : s[k] = s.data.toList.getD k 0 := by
  rw [List.getD_eq_getElem?_getD, List.getElem?_eq_getElem (by simpa using h)]; rfl

theorem take_few (s : ByteArray) (w : World) (h : s.size < 4) :
    Calls Tryd.prog 9 #[.string s] w fun e w' => e = .returned (.int .i64 (-1)) ∧ w = w' := by
  go_enter Tryd.func9, Tryd.ntmps9
  go_wp2
  go_ret
  exact ⟨rfl, rfl⟩

set_option maxHeartbeats 400000 in
theorem take_any (s : ByteArray) (w : World) (h : 4 ≤ s.size) (hs : s.size ≤ maxLen) :
    Calls Tryd.prog 9 #[.string s] w fun e w' => e = .returned (.int .i64 (takeN s.data.toList)) ∧ w = w' := by
  unfold maxLen at hs
  go_enter Tryd.func9, Tryd.ntmps9
  go_wp2
  refine wp_loop_rounds 5 ?_
  rw [rounds_succ]; go_wp2
  rw [rounds_succ]; go_wp2
  rw [rounds_succ]; go_wp2
  rw [rounds_succ]; go_wp2
  rw [rounds_succ]; go_wp2
  go_ret
  refine ⟨ret_i64 ?_, rfl⟩
  rw [or0 _ s[0].toNat_lt, or4 _ _ _ _ s[0].toNat_lt s[1].toNat_lt s[2].toNat_lt s[3].toNat_lt]
  unfold takeN
  rw [get_getD s 0 (by omega), get_getD s 1 (by omega), get_getD s 2 (by omega), get_getD s 3 (by omega)]

/-- Not the same text, of one length and one sum. -/
def sameB (a b : ByteArray) : Bool := !(a.toList == b.toList) && (a.size == b.size && Crc.moreN 0 a.data.toList == Crc.moreN 0 b.data.toList)
theorem nat_beq (x y : Nat) : ((x : Int) == (y : Int)) = (x == y) := by rw [Bool.eq_iff_iff]; simp; omega
theorem ret_bool {a b : Bool} (h : a = b) : Ending.returned (.bool a) = .returned (.bool b) := by rw [h]
theorem same_any (a b : ByteArray) (w : World) (ha : a.size ≤ maxLen) (hb : b.size ≤ maxLen) :
    Calls Tryd.prog 10 #[.string a, .string b] w fun e w' => e = .returned (.bool (sameB a b)) ∧ w = w' := by
  go_enter Tryd.func10, Tryd.ntmps10
  go_wp2_with (go_at_call 5; refine (sum_any _ _ (by assumption)).mono ?_; rintro e w' ⟨rfl, rfl⟩)
  all_goals go_ret
  · rename_i h
    exact ⟨ret_bool (by simp [sameB, h]), rfl⟩
  · rename_i h h'
    exact ⟨ret_bool (by have h2 : a.size = b.size := by omega
                        simp [sameB, h2, nat_beq]), rfl⟩
  · rename_i h h'
    exact ⟨ret_bool (by have h2 : ¬ a.size = b.size := by omega
                        simp [sameB, h2]), rfl⟩
end Go.Proofs.YtffbiapdcplipaaDoor
