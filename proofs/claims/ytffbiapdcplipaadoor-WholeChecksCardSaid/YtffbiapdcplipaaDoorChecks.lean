/-
  The law WholeChecks: whatever its input, the call answers true; what lay in memory stays as it was.
-/
import Derived.Test.YtffbiapdcplipaaDoorChecksC
import Derived.Deep.QuietTactic
import Derived.BigQuiet
import Derived.Deep.RegionWith
import Derived.Deep.RegionHeld3
import Derived.Deep.DeepCutAuto
namespace Go.Proofs.YtffbiapdcplipaaDoor
open Go.RowKit

theorem extract_front (s : ByteArray) (k : Nat) : (s.extract 0 k).data.toList = s.data.toList.take k := by
  rw [Lib.extract_data]; simp
theorem size_x (s : ByteArray) : (s ++ (⟨#[120]⟩ : ByteArray)).size = s.size + 1 := by rw [ByteArray.size_append]; rfl
theorem getD_take (l : List UInt8) (k i : Nat) (h : i < k) : (l.take k).getD i 0 = l.getD i 0 := by
  rw [List.getD_eq_getElem?_getD, List.getD_eq_getElem?_getD, List.getElem?_take, if_pos h]
theorem extract_back (s : ByteArray) (k : Nat) : (s.extract k s.size).data.toList = s.data.toList.drop k := by
  rw [Lib.extract_data]; exact List.take_of_length_le (by simp)
set_option maxRecDepth 100000 in
set_option maxHeartbeats 2000000 in
theorem checks_walk (s other : ByteArray) (cut sum : Int) (w : World) (hm : MaxOk w) (hs : s.size ≤ maxLen) (ho : other.size ≤ maxLen) (hc0 : 0 ≤ cut) (hc1 : cut ≤ 255) :
    Calls Tryd.prog 3 #[.string s, .int .u8 cut, .int .i64 sum, .string other] w fun e w' => e = .returned (.bool true) ∧ Q w w' := by
  have hqf : ∀ w', Q w w' → Q w w' := fun _ h => h
  unfold maxLen at hs ho
  go_enter Tryd.func3, Tryd.ntmps3
  go_wp2_with fail
  go_quiet (fail)
  go_wp2_with fail
  have hsz : min (min (s.size : Int) 60).toNat s.size = (s.extract 0 (min (s.size : Int) 60).toNat).size := by simp
  rw [hsz]
  clear hsz
  have hl1 : (s.extract 0 (min (s.size : Int) 60).toNat).size ≤ 60 := by simp; omega
  have hl2 : (other.extract 0 (min (other.size : Int) 60).toNat).size ≤ 60 := by simp; omega
  generalize s.extract 0 (min (s.size : Int) 60).toNat = s1 at *
  generalize other.extract 0 (min (other.size : Int) 60).toNat = o1 at *
  obtain ⟨k, hk, hk1⟩ : ∃ k : Nat, cut % ((s1.size : Int) + 1) = k ∧ k ≤ s1.size :=
    ⟨(cut % ((s1.size : Int) + 1)).toNat, by have := Int.emod_nonneg cut (show (s1.size : Int) + 1 ≠ 0 by omega); omega, by have := Int.emod_lt_of_pos cut (show (0 : Int) < (s1.size : Int) + 1 by omega); omega⟩
  rw [hk]; clear hk
  clear hs ho hc0 hc1
  have q0 : Q w (w.drewN nq) := (Q.refl w).drewN nq
  obtain ⟨c0, C0⟩ : ∃ c, Hid (Crc.moreN 0 s1.data.toList = c) := ⟨_, rfl⟩
  have hsl : s1.size ≤ maxLen := by unfold maxLen; omega
  have hc0 : c0 < 4294967296 := by have := Crc.moreN_lt 0 s1.data.toList (by omega); rw [C0.out] at this; exact this
  refine (c_summed (w0 := w) (n := 0) (c := c0) C0 hsl (by omega) (by omega) q0).mono ?_
  rintro e w1 ⟨rfl, q1⟩
  clear q0
  go_wp2_with fail
  have hk0 : (k : Int) ≤ s1.size := by omega
  have E1 := extract_front s1 k
  have E2 := extract_back s1 k
  have z1 : (s1.extract 0 k).size ≤ maxLen := by simp; unfold maxLen; omega
  have z2 : (s1.extract k s1.size).size ≤ maxLen := by simp; unfold maxLen; omega
  obtain ⟨c1, C1⟩ : ∃ c, Hid (Crc.moreN 0 (s1.extract 0 k).data.toList = c) := ⟨_, rfl⟩
  have hc1 : c1 < 4294967296 := by have := Crc.moreN_lt 0 (s1.extract 0 k).data.toList (by omega); rw [C1.out] at this; exact this
  have C2 : Hid (Crc.moreN ((c1 : Int) % 4294967296).toNat (s1.extract k s1.size).data.toList = c0) := by
    show _ = _
    rw [show ((c1 : Int) % 4294967296).toNat = c1 by omega, E2, ← C1.out, E1, ← C0.out, ← Crc.moreN_append, List.take_append_drop]
  clear E1 E2
  obtain ⟨u, hu, hu0, hu1⟩ : ∃ u : Int, sum % 4294967296 = u ∧ 0 ≤ u ∧ u < 4294967296 := ⟨_, rfl, by omega, by omega⟩
  have hwu : IntKind.u32.wrap sum = u := by rw [IntKind.wrap_u32, hu]
  have hwi : IntKind.i64.wrap u = u := IntWalk.i64_in _ (by omega)
  obtain ⟨m1, M1⟩ : ∃ c, Hid (Crc.moreN u.toNat s1.data.toList = c) := ⟨_, rfl⟩
  have M2 : Hid (Crc.moreN (sum % 4294967296).toNat s1.data.toList = m1) := by rw [hu]; exact M1
  have hm1 : m1 < 4294967296 := by have := Crc.moreN_lt u.toNat s1.data.toList (by omega); rw [M1.out] at this; exact this
  have hwm : IntKind.i64.wrap (m1 : Int) = (m1 : Int) := IntWalk.i64_in _ (by omega)
  obtain ⟨p, P⟩ : ∃ p, Hid (fourB sum = p) := ⟨_, rfl⟩
  have P2 : Hid (fourB u = p) := by rw [← hu]; exact (fourB_mod sum).trans P.out
  have hp : p.size = 4 := by rw [← P.out]; rfl
  have T1 : Hid (takeF (p ++ s1) = u) := by rw [← P.out, ← hu]; exact take_put sum s1
  have zp : (p ++ s1).size ≤ maxLen := by simp; unfold maxLen; omega
  have hp4 : p.size ≤ 4 := by omega
  have hcat : ¬ 9223372036854775807 < p.size + s1.size := by omega
  clear hp hu
  go_cut [77] (fun v w2 => v = .bool false ∧ Q w w2)
  case first =>
    clear hqf
    go_region_held3 (fun w' => Q w w') (repeat (first | assumption | apply Q.drewN | apply Q.drew)) (first
      | ((go_at_call 5; with_reducible refine (c_sum C0 hsl (by repeat (first | assumption | apply Q.drewN | apply Q.drew))).mono ?_); rintro e w2 ⟨rfl, q2⟩)
      | ((go_at_call 5; with_reducible refine (c_sum C1 z1 (by repeat (first | assumption | apply Q.drewN | apply Q.drew))).mono ?_); rintro e w2 ⟨rfl, q2⟩)
      | ((go_at_call 6; with_reducible refine (c_more C2 z2 (by repeat (first | assumption | apply Q.drewN | apply Q.drew))).mono ?_); rintro e w2 ⟨rfl, q2⟩)
      | ((go_at_call 6; with_reducible refine (c_more M2 hsl (by repeat (first | assumption | apply Q.drewN | apply Q.drew))).mono ?_); rintro e w2 ⟨rfl, q2⟩)
      | ((go_at_call 7; with_reducible refine (c_put P (by repeat (first | assumption | apply Q.drewN | apply Q.drew))).mono ?_); rintro e w2 ⟨rfl, q2⟩)
      | ((go_at_call 8; with_reducible refine (c_four P2 (by repeat (first | assumption | apply Q.drewN | apply Q.drew))).mono ?_); rintro e w2 ⟨rfl, q2⟩)
      | ((go_at_call 9; with_reducible refine (c_take T1 zp (by repeat (first | assumption | apply Q.drewN | apply Q.drew))).mono ?_); rintro e w2 ⟨rfl, q2⟩)
      | ((go_at_call 4; with_reducible refine (c_summed M1 hsl hu0 hu1 (by repeat (first | assumption | apply Q.drewN | apply Q.drew))).mono ?_); rintro e w2 ⟨rfl, q2⟩))
    go_wp2_with fail
    go_meet
    case rel => exact ⟨rfl, by assumption⟩
  case rest =>
    obtain ⟨rfl, q2⟩ := hcut
    clear C1 z2 hc1 C2 hwu hwi M1 M2 hm1 hwm P P2 T1 zp hp4 hcat hu0 hu1
    obtain ⟨few, F⟩ : ∃ f, Hid (takeF (s1.extract 0 k) = f) := ⟨_, rfl⟩
    have hks : (s1.extract 0 k).size = k := by simp; omega
    go_upto_if 79 with (fail)
    go_cut [11] (fun v w2 => v = .int .i64 few ∧ Q w w2)
    case first =>
      by_cases h3 : 3 < k
      · have b0 : (0 : Int) < s1.size := by omega
        have n0 : 0 < s1.size := by omega
        have n1 : 1 < s1.size := by omega
        have n2 : 2 < s1.size := by omega
        have n3 : 3 < s1.size := by omega
        have b1 : (1 : Int) < s1.size := by omega
        have b2 : (2 : Int) < s1.size := by omega
        have b3 : (3 : Int) < s1.size := by omega
        have hd : decide ((3 : Int) < k) = true := by simp; omega
        go_wp2_with fail
        go_quiet (fail)
        go_wp2_with fail
        go_meet
        case rel =>
          refine ⟨?_, q2.drewN _⟩
          rw [or4 _ _ _ _ s1[0].toNat_lt s1[1].toNat_lt s1[2].toNat_lt s1[3].toNat_lt, ← F.out]
          unfold takeF
          rw [if_neg (by omega), extract_front]
          unfold takeN
          rw [getD_take _ _ _ (by omega), getD_take _ _ _ (by omega), getD_take _ _ _ (by omega), getD_take _ _ _ (by omega),
            ← get_getD s1 0 n0, ← get_getD s1 1 n1, ← get_getD s1 2 n2, ← get_getD s1 3 n3]
      · have hd : decide ((3 : Int) < k) = false := by simp; omega
        have e : few = -1 := by rw [← F.out]; unfold takeF; rw [if_pos (by omega)]
        clear hks
        go_wp2_with fail
        go_meet
        case rel => exact ⟨by rw [e], q2⟩
    case rest =>
      obtain ⟨rfl, q3⟩ := hcut
      clear hks
      have hol : o1.size ≤ maxLen := by unfold maxLen; omega
      obtain ⟨d0, D0⟩ : ∃ c, Hid (Crc.moreN 0 o1.data.toList = c) := ⟨_, rfl⟩
      have hd0 : d0 < 4294967296 := by have := Crc.moreN_lt 0 o1.data.toList (by omega); rw [D0.out] at this; exact this
      obtain ⟨sm, S1⟩ : ∃ b, Hid (sameB s1 o1 = b) := ⟨_, rfl⟩
      have S2 : Hid (sameB s1 s1 = false) := same_self s1
      have S3 : Hid (sameB s1 (s1 ++ ⟨#[120]⟩) = false) := same_more _ _ (by rw [size_x]; omega)
      have zx : (s1 ++ (⟨#[120]⟩ : ByteArray)).size ≤ maxLen := by rw [size_x]; unfold maxLen; omega
      go_upto_region 9 with (fail)
      go_cut [12] (fun v w2 => v = .bool sm ∧ Q w w2)
      case first =>
        go_wp2_with (first
          | ((go_at_call 4; with_reducible refine (c_summed0 C0 hsl (by assumption)).mono ?_); rintro e w2 ⟨rfl, q4⟩)
          | ((go_at_call 4; with_reducible refine (c_summed0 D0 hol (by assumption)).mono ?_); rintro e w2 ⟨rfl, q5⟩))
        · rename_i h
          go_meet
          case rel => exact ⟨by rw [← S1.out]; simp [sameB, h], by assumption⟩
        · rename_i h h'
          go_meet
          case rel => exact ⟨by
            have h2 : s1.size = o1.size := by omega
            rw [← S1.out, ← C0.out, ← D0.out]; simp [sameB, h2, nat_beq], by assumption⟩
        · rename_i h h'
          go_meet
          case rel => exact ⟨by
            have h2 : ¬ s1.size = o1.size := by omega
            rw [← S1.out]; simp [sameB, h2], by assumption⟩
      case rest =>
        obtain ⟨rfl, q4⟩ := hcut
        clear D0 hd0 C0 hc0
        go_wp2_with (first
          | ((go_at_call 9; with_reducible refine (c_take F z1 (by assumption)).mono ?_); rintro e w2 ⟨rfl, q5⟩)
          | ((go_at_call 10; with_reducible refine (c_same S1 hsl hol (by assumption)).mono ?_); rintro e w2 ⟨rfl, q6⟩)
          | ((go_at_call 10; with_reducible refine (c_same S2 hsl hsl (by assumption)).mono ?_); rintro e w2 ⟨rfl, q6⟩)
          | ((go_at_call 10; with_reducible refine (c_same S3 hsl zx (by assumption)).mono ?_); rintro e w2 ⟨rfl, q6⟩)
          | ((go_at_call 11; with_reducible refine (c_wakes hm (by assumption)).mono ?_); rintro e w2 ⟨rfl, q6⟩))
        go_ret
        exact ⟨rfl, by assumption⟩
end Go.Proofs.YtffbiapdcplipaaDoor
