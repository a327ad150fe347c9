/-
  A text's value: contracts of value.Check and value.Show at a value of the kind text, and of wakes, the few fixed answers. Condition: the variable bytealg.MaxLen holds a number.
-/
import Derived.Test.YtffbiapdcplipaaDoorNumR
import Derived.Test.YtffbiapdcplipaaDoorShelf
namespace Go.Proofs.YtffbiapdcplipaaDoor
open Go.RowKit

/-- The variable of the library that a search looks at holds some number. -/
def MaxOk (w : World) : Prop := 0 < w.heap.size ∧ ∃ m, w.cell? ⟨0, 0, none⟩ = some (.int .i64 m)
theorem MaxOk.below {B : Nat} {w w' : World} (h : MaxOk w) (hb : Below B w w') (hB : 0 < B) : MaxOk w' := by
  obtain ⟨h1, m, h2⟩ := h
  exact ⟨Nat.lt_of_lt_of_le h1 hb.size, m, by rw [hb.cell (p := ⟨0, 0, none⟩) hB]; exact h2⟩

/-- Behind a call that makes memory of its own: all cells and marks that were there read as before. -/
theorem bcell {W w1 : World} (hb : Below W.heap.size W w1) : (∀ b o, b < W.heap.size → w1.cell? ⟨b, o, none⟩ = W.cell? ⟨b, o, none⟩) ∧ (∀ b o, b < W.heap.size → w1.frozen? ⟨b, o, none⟩ = W.frozen? ⟨b, o, none⟩) :=
  ⟨fun b o h => hb.cell (p := ⟨b, o, none⟩) h, fun b o h => hb.frozen (p := ⟨b, o, none⟩) h⟩

theorem check_text (s : ByteArray) (w : World) (h : s.size ≤ 64) :
    Calls Tryd.prog 16 #[.agg #[.int .i64 2, .int .i64 0, .string s]] w fun e w' => e = .returned (.int .i64 0) ∧ Below w.heap.size w w' := by
  have hd : decide ((s.size : Int) ≤ 64) = true := by simp; omega
  go_enter Tryd.func16, Tryd.ntmps16
  go_wp2
  go_ret
  exact ⟨rfl, (Below.refl _ _).alloc (Nat.le_refl _) _⟩

theorem replace_any (s old new : ByteArray) (w : World) (hm : MaxOk w) (hs : s.size < 4294967281) (h1 : 1 ≤ old.size) (hlen : s.size + Lib.countB s old * new.size ≤ 140737488355328) :
    Calls Tryd.prog 18 #[.string s, .string old, .string new] w fun e w' =>
      e = .returned (.string ⟨(Lib.replaceAll s.data.toList old.data.toList new.data.toList).toArray⟩) ∧ Below w.heap.size w w' := by
  obtain ⟨_, m, h⟩ := hm
  exact Tryd.strings_ReplaceAll s old new m w hs h h1 hlen

set_option maxHeartbeats 400000 in
theorem show_text (w : World) (hm : MaxOk w) :
    Calls Tryd.prog 13 #[.agg #[.int .i64 2, .int .i64 0, .string ⟨#[97, 39, 98]⟩]] w fun e w' => e = .returned (.string ⟨#[39, 97, 39, 39, 98, 39]⟩) ∧ Below w.heap.size w w' := by
  go_enter Tryd.func13, Tryd.ntmps13
  go_wp2_with fail
  refine (check_text _ _ (by decide)).mono ?_
  rintro e w1 ⟨rfl, hb1⟩
  obtain ⟨hc, hf⟩ := bcell hb1
  have hb0 := ((Below.refl w.heap.size w).alloc (Nat.le_refl _) _).trans (hb1.mono (by simp))
  go_wp2_with fail
  refine (replace_any _ _ _ _ ?_ (by decide) (by decide) (by decide)).mono ?_
  · exact hm.below hb0 hm.1
  rintro e w2 ⟨rfl, hb2⟩
  have hrep : Lib.replaceAll [97, 39, 98] [39] [39, 39] = [97, 39, 39, 98] := by decide
  go_wp2_with fail
  go_ret
  exact ⟨by simp; rfl, hb0.trans (hb2.mono hb0.size)⟩

set_option maxRecDepth 10000 in
theorem sum_nine : Crc.moreN 0 [49, 50, 51, 52, 53, 54, 55, 56, 57] = 3421780262 := by decide +kernel
theorem read_least : readF ⟨#[45, 57, 50, 50, 51, 51, 55, 50, 48, 51, 54, 56, 53, 52, 55, 55, 53, 56, 48, 56]⟩ = (-9223372036854775808, 0) := by decide +kernel

theorem sum_nine_any (w : World) :
    Calls Tryd.prog 5 #[.string ⟨#[49, 50, 51, 52, 53, 54, 55, 56, 57]⟩] w fun e w' => e = .returned (.int .i64 3421780262) ∧ w = w' := by
  refine (sum_any _ w (by decide)).mono ?_
  rintro e w' ⟨rfl, rfl⟩
  exact ⟨ret_i64 (congrArg Int.ofNat sum_nine), rfl⟩

set_option maxHeartbeats 400000 in
theorem wakes_any (w : World) (hm : MaxOk w) :
    Calls Tryd.prog 11 #[] w fun e w' => e = .returned (.bool true) ∧ Below w.heap.size w w' := by
  go_enter Tryd.func11, Tryd.ntmps11
  go_wp2_with fail
  refine (read_any _ _ (by decide)).mono ?_
  rw [read_least]
  rintro e w1 ⟨rfl, rfl⟩
  go_wp2_with fail
  refine (sum_nine_any _).mono ?_
  rintro e w1 ⟨rfl, rfl⟩
  go_wp2_with fail
  refine (show_text _ hm).mono ?_
  rintro e w2 ⟨rfl, hb2⟩
  go_wp2_with fail
  go_ret
  exact ⟨rfl, hb2⟩
end Go.Proofs.YtffbiapdcplipaaDoor
