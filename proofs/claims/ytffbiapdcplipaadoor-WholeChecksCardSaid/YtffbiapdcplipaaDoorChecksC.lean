/-
  The callees of WholeChecks, each with its answer under a name and the world's relation carried along.
-/
import Derived.Test.YtffbiapdcplipaaDoorValT
namespace Go.Proofs.YtffbiapdcplipaaDoor
open Go.RowKit

/-- What was there at the call's begin is there. -/
def Q (w0 w : World) : Prop := Below w0.heap.size w0 w
theorem Q.refl (w : World) : Q w w := Below.refl _ _
theorem Q.drew {w0 w : World} (h : Q w0 w) : Q w0 w.drew := Below.drew h
theorem Q.drewN {w0 w : World} (h : Q w0 w) (n : Nat) : Q w0 (w.drewN n) := by
  induction n with
  | zero => exact h
  | succ n ih => exact Q.drew ih
theorem Q.step {w0 w w' : World} (h : Q w0 w) (hb : Below w.heap.size w w') : Q w0 w' := Below.trans h (hb.mono h.size)
theorem Q.maxOk {w0 w : World} (h : Q w0 w) (hm : MaxOk w0) : MaxOk w := hm.below h hm.1

section
variable {w0 : World}
theorem c_sum {s : ByteArray} {c : Nat} (H : Hid (Crc.moreN 0 s.data.toList = c)) (hs : s.size ≤ maxLen) {w : World} (hq : Q w0 w) :
    Calls Tryd.prog 5 #[.string s] w fun e w' => e = .returned (.int .i64 c) ∧ Q w0 w' := by
  rw [← H.out]; refine (sum_any s w hs).mono ?_; rintro e w' ⟨rfl, rfl⟩; exact ⟨rfl, hq⟩
theorem c_more {sum : Int} {s : ByteArray} {c : Nat} (H : Hid (Crc.moreN (sum % 4294967296).toNat s.data.toList = c)) (hs : s.size ≤ maxLen) {w : World} (hq : Q w0 w) :
    Calls Tryd.prog 6 #[.int .i64 sum, .string s] w fun e w' => e = .returned (.int .i64 c) ∧ Q w0 w' := by
  rw [← H.out]; refine (more_any sum s w hs).mono ?_; rintro e w' ⟨rfl, rfl⟩; exact ⟨rfl, hq⟩
theorem c_summed {n : Int} {s : ByteArray} {c : Nat} (H : Hid (Crc.moreN n.toNat s.data.toList = c)) (hs : s.size ≤ maxLen) (h0 : 0 ≤ n) (h1 : n < 4294967296) {w : World} (hq : Q w0 w) :
    Calls Tryd.prog 4 #[.int .u32 n, .string s] w fun e w' => e = .returned (.int .u32 c) ∧ Q w0 w' := by
  rw [← H.out]; refine (summed_any n s w hs h0 h1).mono ?_; rintro e w' ⟨rfl, hb⟩; exact ⟨rfl, hq.step hb⟩
theorem c_summed0 {s : ByteArray} {c : Nat} (H : Hid (Crc.moreN 0 s.data.toList = c)) (hs : s.size ≤ maxLen) {w : World} (hq : Q w0 w) :
    Calls Tryd.prog 4 #[.int .u32 0, .string s] w fun e w' => e = .returned (.int .u32 c) ∧ Q w0 w' :=
  c_summed (n := 0) H hs (by omega) (by omega) hq
theorem c_put {sum : Int} {p : ByteArray} (H : Hid (fourB sum = p)) {w : World} (hq : Q w0 w) :
    Calls Tryd.prog 7 #[.int .i64 sum] w fun e w' => e = .returned (.string p) ∧ Q w0 w' := by
  rw [← H.out]; refine (put_any sum w).mono ?_; rintro e w' ⟨rfl, hb⟩; exact ⟨rfl, hq.step hb⟩
theorem c_four {n : Int} {p : ByteArray} (H : Hid (fourB n = p)) {w : World} (hq : Q w0 w) :
    Calls Tryd.prog 8 #[.int .u32 n] w fun e w' => e = .returned (.string p) ∧ Q w0 w' := by
  rw [← H.out]; refine (four_any n w).mono ?_; rintro e w' ⟨rfl, hb⟩; exact ⟨rfl, hq.step hb⟩
/-- The sum of four bytes, or none. -/
def takeF (s : ByteArray) : Int := if s.size < 4 then -1 else (takeN s.data.toList : Nat)
theorem c_take {s : ByteArray} {n : Int} (H : Hid (takeF s = n)) (hs : s.size ≤ maxLen) {w : World} (hq : Q w0 w) :
    Calls Tryd.prog 9 #[.string s] w fun e w' => e = .returned (.int .i64 n) ∧ Q w0 w' := by
  rw [← H.out]
  unfold takeF
  split
  · rename_i h; refine (take_few s w h).mono ?_; rintro e w' ⟨rfl, rfl⟩; exact ⟨rfl, hq⟩
  · rename_i h; refine (take_any s w (by omega) hs).mono ?_; rintro e w' ⟨rfl, rfl⟩; exact ⟨rfl, hq⟩
theorem c_same {a b : ByteArray} {x : Bool} (H : Hid (sameB a b = x)) (ha : a.size ≤ maxLen) (hb : b.size ≤ maxLen) {w : World} (hq : Q w0 w) :
    Calls Tryd.prog 10 #[.string a, .string b] w fun e w' => e = .returned (.bool x) ∧ Q w0 w' := by
  rw [← H.out]; refine (same_any a b w ha hb).mono ?_; rintro e w' ⟨rfl, rfl⟩; exact ⟨rfl, hq⟩
theorem c_wakes (hm : MaxOk w0) {w : World} (hq : Q w0 w) :
    Calls Tryd.prog 11 #[] w fun e w' => e = .returned (.bool true) ∧ Q w0 w' := by
  refine (wakes_any w (hq.maxOk hm)).mono ?_; rintro e w' ⟨rfl, hb⟩; exact ⟨rfl, hq.step hb⟩
end

/-! ### What the answers are -/
theorem take_put (sum : Int) (s : ByteArray) : takeF (fourB sum ++ s) = sum % 4294967296 := by
  have hsz : (fourB sum ++ s).data.toList = (fourB sum).data.toList ++ s.data.toList := by simp
  have hf : (fourB sum).data.toList = [UInt8.ofNat (sum % 256).toNat, UInt8.ofNat (sum / 256 % 256).toNat, UInt8.ofNat (sum / 65536 % 256).toNat, UInt8.ofNat (sum / 16777216 % 256).toNat] := rfl
  have h4 : ¬ (fourB sum ++ s).size < 4 := by
    have : (fourB sum ++ s).size = (fourB sum ++ s).data.toList.length := by simp
    rw [this, hsz, hf]; simp
  unfold takeF
  rw [if_neg h4, hsz, hf]
  unfold takeN four4
  simp only [List.cons_append, List.nil_append, List.getD_cons_zero, List.getD_cons_succ]
  have e : ∀ n : Nat, n < 256 → (UInt8.ofNat n).toNat = n := fun n h => by rw [UInt8.toNat_ofNat']; omega
  rw [e _ (by omega), e _ (by omega), e _ (by omega), e _ (by omega)]
  omega
theorem same_self (s : ByteArray) : sameB s s = false := by simp [sameB]
theorem same_more (s t : ByteArray) (h : s.size ≠ t.size) : sameB s t = false := by
  have : (s.size == t.size) = false := by simpa using h
  simp [sameB, this]
end Go.Proofs.YtffbiapdcplipaaDoor
