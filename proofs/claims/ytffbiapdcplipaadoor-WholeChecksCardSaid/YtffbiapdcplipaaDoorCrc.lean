/-
  What the sums of bytes compute: contracts of crc.More, crc.Sum and of the law's own summed. No conditions beyond the size of a string.
-/
import Derived.Test.YtffbiapdcplipaaDoorCrcM
import Derived.Test.YtffbiapdcplipaaDoorProg
import Derived.WalkKit
import Derived.Lib.Hide
import Derived.Lib.ConvBytes
import Derived.Below
import Derived.Deep.LoopGhost
import Derived.Outline
namespace Go.Proofs.YtffbiapdcplipaaDoor
open Go.RowKit

theorem ret_i64 {k : IntKind} {a b : Int} (h : a = b) : Ending.returned (.int k a) = .returned (.int k b) := by rw [h]
theorem x32 (a b : Nat) (ha : a < 4294967296) (hb : b < 4294967296) : bits .xor .u32 (a : Int) (b : Int) = ((a ^^^ b : Nat) : Int) := u32_xor_nat a b ha hb
set_option maxHeartbeats 400000 in
theorem more_any (sum : Int) (s : ByteArray) (w : World) (hs : s.size ≤ maxLen) :
    Calls Tryd.prog 6 #[.int .i64 sum, .string s] w fun e w' => e = .returned (.int .i64 (Crc.moreN (sum % 4294967296).toNat s.data.toList)) ∧ w = w' := by
  unfold maxLen at hs
  obtain ⟨m, hm, hm2⟩ : ∃ m : Nat, sum % 4294967296 = m ∧ m < 4294967296 := ⟨(sum % 4294967296).toNat, by omega, by omega⟩
  have hM : (sum % 4294967296).toNat = m := by omega
  rw [hM]; clear hM
  have hx : bits .xor .u32 4294967295 (sum % 4294967296) = ((4294967295 ^^^ m : Nat) : Int) := by rw [hm]; exact x32 4294967295 m (by omega) hm2
  clear hm
  have hsg : IntKind.u32.signed = false := rfl
  have hmax : IntKind.u32.max = 4294967295 := rfl
  go_enter Tryd.func6, Tryd.ntmps6
  go_wp2
  go_loop [5, 12] (fun c i => ∃ k : Nat, k ≤ s.size ∧ i = .int .i64 k ∧ c = .int .u32 (Crc.sumN (4294967295 ^^^ m) (s.data.toList.take k) : Nat)) (fun _ i => s.size - (intOf i).toNat)
  case atStart => exact ⟨0, Nat.zero_le _, rfl, by simp [Crc.sumN]⟩
  case round =>
    obtain ⟨k, hk, rfl, rfl⟩ := hrel
    have hlt := Crc.sumN_lt (s.data.toList.take k) (4294967295 ^^^ m) (Crc.not_lt m hm2)
    by_cases hks : k < s.size
    · have hsn := Lib.hid (Crc.sumN_snoc (4294967295 ^^^ m) (s.data.toList.take k) s[k])
      rw [← Crc.take_snoc s k hks] at hsn
      generalize Crc.sumN (4294967295 ^^^ m) (s.data.toList.take k) = c at *
      have hb := s[k].toNat_lt
      have hx1 := x32 c s[k].toNat hlt (by omega)
      go_wp2
      go_loop [5, 21] (fun c' i => ∃ j : Nat, j ≤ 8 ∧ i = .int .i64 j ∧ c' = .int .u32 (Crc.bits8 j (c ^^^ s[k].toNat) : Nat)) (fun _ i => 8 - (intOf i).toNat)
      case atStart => exact ⟨0, Nat.zero_le _, rfl, rfl⟩
      case round =>
        obtain ⟨j, hj, rfl, rfl⟩ := hrel
        have hl8 := Crc.bits8_lt j (c ^^^ s[k].toNat) (Crc.xorb_lt c s[k] hlt)
        by_cases hj8 : j < 8
        · generalize hd : Crc.bits8 j (c ^^^ s[k].toNat) = d at *
          have Hd := Lib.hid hd; clear hd
          go_wp2
          go_round
          case rel =>
            refine ⟨j + 1, by omega, by go_num, ?_⟩
            rw [Crc.bit1_int d hl8, ← Hd.out]; rfl
          case measure => simp [intOf]; omega
        · have hj : j = 8 := by omega
          subst hj
          go_wp2
          go_round
          case rel => 
            exact ⟨k + 1, by omega, by go_num, by rw [hsn.out]; rfl⟩
          case measure => simp [intOf]; omega
    · have hk : k = s.size := by omega
      subst hk
      go_wp2
      go_ret
      refine ⟨ret_i64 ?_, rfl⟩
      have hl : List.take s.size s.data.toList = s.data.toList := List.take_of_length_le (by simp)
      rw [hl] at hlt ⊢
      have hx2 : bits .xor .u32 4294967295 (Crc.sumN (4294967295 ^^^ m) s.data.toList : Nat) = ((Crc.moreN m s.data.toList : Nat) : Int) := x32 4294967295 _ (by omega) hlt
      have hl3 := Crc.moreN_lt m s.data.toList hm2
      rw [hx2]; unfold wrap64; omega

theorem sum_any (s : ByteArray) (w : World) (hs : s.size ≤ maxLen) :
    Calls Tryd.prog 5 #[.string s] w fun e w' => e = .returned (.int .i64 (Crc.moreN 0 s.data.toList)) ∧ w = w' := by
  go_enter Tryd.func5, Tryd.ntmps5
  go_wp2_with (go_at_call 6; refine (more_any _ _ _ hs).mono ?_; rintro e w' ⟨rfl, rfl⟩)
  go_ret
  exact ⟨rfl, rfl⟩

/-- What the conversion of a text to bytes leaves: the bytes in a new row. -/
theorem bytesWorld_below (w : World) (e : TypeId) (s : ByteArray) : Below w.heap.size w (Lib.bytesWorld w e s) :=
  ⟨rfl, rfl, rfl, by rw [Lib.bytesWorld_size]; omega, fun k hk => Lib.bytesWorld_at_old w e s k hk⟩

set_option maxRecDepth 10000 in
set_option maxHeartbeats 400000 in
theorem summed_any (c0 : Int) (s : ByteArray) (w : World) (hs : s.size ≤ maxLen) (h0 : 0 ≤ c0) (h1 : c0 < 4294967296) :
    Calls Tryd.prog 4 #[.int .u32 c0, .string s] w fun e w' => e = .returned (.int .u32 (Crc.moreN c0.toNat s.data.toList)) ∧ Below w.heap.size w w' := by
  unfold maxLen at hs
  obtain ⟨m, rfl⟩ := Int.eq_ofNat_of_zero_le h0
  have hm2 : m < 4294967296 := by omega
  clear h0 h1
  have hx : bits .xor .u32 4294967295 (m : Int) = ((4294967295 ^^^ m : Nat) : Int) := x32 4294967295 m (by omega) hm2
  have hsg : IntKind.u32.signed = false := rfl
  have hmax : IntKind.u32.max = 4294967295 := rfl
  have hcv := Lib.run_convert_string_bytes (P := Tryd.prog) w 9 32 5 s Tryd.underlying9 Tryd.underlying32 Tryd.underlying5
  have hbel := bytesWorld_below w 5 s
  have hcell := Lib.bytesWorld_cell w 5 s
  generalize grownCap w s.size 0 5 = cap at *
  generalize Lib.bytesWorld w 5 s = W1 at *
  go_enter Tryd.func4, Tryd.ntmps4
  go_wp2
  go_loop [5, 13] (fun c i => ∃ k : Nat, k ≤ s.size ∧ i = .int .i64 k ∧ c = .int .u32 (Crc.sumN (4294967295 ^^^ m) (s.data.toList.take k) : Nat)) (fun _ i => s.size - (intOf i).toNat)
  case atStart => exact ⟨0, Nat.zero_le _, rfl, by simp [Crc.sumN]⟩
  case round =>
    obtain ⟨k, hk, rfl, rfl⟩ := hrel
    have hlt := Crc.sumN_lt (s.data.toList.take k) (4294967295 ^^^ m) (Crc.not_lt m hm2)
    by_cases hks : k < s.size
    · have hsn := Lib.hid (Crc.sumN_snoc (4294967295 ^^^ m) (s.data.toList.take k) s[k])
      rw [← Crc.take_snoc s k hks] at hsn
      have hck : W1.cell? ⟨w.heap.size, k, none⟩ = some (.int .u8 s[k].toNat) := by
        rw [hcell k hks, List.getD_eq_getElem?_getD, List.getElem?_eq_getElem (by simpa using hks)]; rfl
      clear hcell hsg hmax
      have hb : s[k].toNat < 256 := s[k].toNat_lt
      replace hsn : Hid (Crc.sumN (4294967295 ^^^ m) (List.take (k + 1) s.data.toList) = Crc.bits8 8 (Crc.sumN (4294967295 ^^^ m) (s.data.toList.take k) ^^^ s[k].toNat)) := hsn
      generalize s[k].toNat = b at *
      generalize Crc.sumN (4294967295 ^^^ m) (s.data.toList.take k) = c at *
      have hx1 := x32 c b hlt (by omega)
      have hxl : c ^^^ b < 4294967296 := Nat.xor_lt_two_pow (n := 32) hlt (by omega)
      go_wp2
      go_loop [5, 21] (fun c' i => ∃ j : Nat, j ≤ 8 ∧ i = .int .i64 j ∧ c' = .int .u32 (Crc.bits8 j (c ^^^ b) : Nat)) (fun _ i => 8 - (intOf i).toNat)
      case atStart => exact ⟨0, Nat.zero_le _, rfl, rfl⟩
      case round =>
        obtain ⟨j, hj, rfl, rfl⟩ := hrel
        have hl8 := Crc.bits8_lt j (c ^^^ b) hxl
        by_cases hj8 : j < 8
        · generalize hd : Crc.bits8 j (c ^^^ b) = d at *
          have Hd := Lib.hid hd; clear hd
          by_cases h2 : d % 2 = 1
          · have hq : ((d : Int) % 2 == 1) = true := by simp; omega
            have ho := Crc.bit1_odd d hl8 h2
            clear h2
            go_wp2
            go_round
            case rel => exact ⟨j + 1, by omega, by go_num, by rw [← Hd.out]; rfl⟩
            case measure => simp [intOf]; omega
          · have hq : ((d : Int) % 2 == 1) = false := by simp; omega
            have H2 := Lib.hid h2; clear h2
            go_wp2
            go_round
            case rel => exact ⟨j + 1, by omega, by go_num, by rw [Crc.bit1_even d H2.out, ← Hd.out]; rfl⟩
            case measure => simp [intOf]; omega
        · have hj : j = 8 := by omega
          subst hj
          go_wp2
          go_round
          case rel => 
            exact ⟨k + 1, by omega, by go_num, by rw [hsn.out]⟩
          case measure => simp [intOf]; omega
    · have hk : k = s.size := by omega
      subst hk
      have hl : List.take s.size s.data.toList = s.data.toList := List.take_of_length_le (by simp)
      rw [hl] at hlt ⊢
      have hx2 : bits .xor .u32 4294967295 (Crc.sumN (4294967295 ^^^ m) s.data.toList : Nat) = ((Crc.moreN m s.data.toList : Nat) : Int) := x32 4294967295 _ (by omega) hlt
      clear hcell
      go_wp2
      go_ret
      exact ⟨ret_i64 rfl, hbel⟩
end Go.Proofs.YtffbiapdcplipaaDoor
