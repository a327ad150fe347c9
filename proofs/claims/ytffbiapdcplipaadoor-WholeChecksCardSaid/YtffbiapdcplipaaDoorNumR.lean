/-
  Reading a number: contracts of strings.CutPrefix at a minus, of num.signed and of num.Read. No condition beyond a string's size.
-/
import Derived.Test.YtffbiapdcplipaaDoorPut
namespace Go.Proofs.YtffbiapdcplipaaDoor
open Go.RowKit

/-- What stands behind a minus, or the whole. -/
def restOf (s : ByteArray) : ByteArray := if 1 ≤ s.size ∧ (s.extract 0 1).toList = [45] then s.extract 1 s.size else s
def belowOf (s : ByteArray) : Bool := decide (1 ≤ s.size ∧ (s.extract 0 1).toList = [45])
theorem restOf_size (s : ByteArray) : (restOf s).size ≤ s.size := by
  unfold restOf; split
  · simp
  · exact Nat.le_refl _
theorem ret_sb {a b : ByteArray} {x y : Bool} (h : a = b) (k : x = y) : Ending.returned (.tuple #[.string a, .bool x]) = .returned (.tuple #[.string b, .bool y]) := by rw [h, k]
theorem ret_ii {j k : IntKind} {a b x y : Int} (h : a = b) (g : x = y) : Ending.returned (.tuple #[.int j a, .int k x]) = .returned (.tuple #[.int j b, .int k y]) := by rw [h, g]

theorem cut_any (s : ByteArray) (w : World) (hs : s.size ≤ maxLen) :
    Calls Tryd.prog 14 #[.string s, .string ⟨#[45]⟩] w fun e w' => e = .returned (.tuple #[.string (restOf s), .bool (belowOf s)]) ∧ w = w' := by
  unfold maxLen at hs
  go_enter Tryd.func14, Tryd.ntmps14
  go_wp2
  all_goals go_ret2
  · rename_i h1 h2
    have h3 : ¬ (1 ≤ s.size ∧ (s.extract 0 1).toList = [45]) := by rintro ⟨_, h⟩; simp [h] at h2
    exact ⟨ret_sb (by unfold restOf; rw [if_neg h3]) (by unfold belowOf; rw [decide_eq_false h3]), rfl⟩
  · rename_i h1 h2
    have h3 : 1 ≤ s.size ∧ (s.extract 0 1).toList = [45] := ⟨by omega, by simpa using h2⟩
    exact ⟨ret_sb (by unfold restOf; rw [if_pos h3]) (by unfold belowOf; rw [decide_eq_true h3]), rfl⟩
  · rename_i h1
    have h3 : ¬ (1 ≤ s.size ∧ (s.extract 0 1).toList = [45]) := by rintro ⟨h, _⟩; omega
    exact ⟨ret_sb (by unfold restOf; rw [if_neg h3]) (by unfold belowOf; rw [decide_eq_false h3]), rfl⟩

/-- A number of a size and a sign, and an error. -/
def signedF (n : Int) (b : Bool) : Int × Int :=
  if b = true then (if n ≤ 9223372036854775808 then (-n, 0) else (0, 10)) else (if n < 9223372036854775808 then (n, 0) else (0, 10))
theorem neg_u64 (n : Int) (h0 : 0 ≤ n) (h : n ≤ 9223372036854775808) : wrap64 (IntKind.u64.wrap (-n)) = -n := by
  rw [IntKind.wrap_u64]; unfold wrap64; omega
theorem signed_any (n : Int) (b : Bool) (w : World) (h0 : 0 ≤ n) :
    Calls Tryd.prog 15 #[.int .u64 n, .bool b] w fun e w' => e = .returned (.tuple #[.int .i64 (signedF n b).1, .int .i64 (signedF n b).2]) ∧ w = w' := by
  go_enter Tryd.func15, Tryd.ntmps15
  go_wp2
  all_goals go_ret2
  all_goals rename_i h1 h2
  · have e : signedF n b = (-n, 0) := by unfold signedF; rw [if_pos h1, if_pos h2]
    exact ⟨ret_ii (by rw [e]; exact neg_u64 n h0 h2) (by rw [e]), rfl⟩
  · have e : signedF n b = (0, 10) := by unfold signedF; rw [if_pos h1, if_neg (by omega)]
    exact ⟨ret_ii (by rw [e]) (by rw [e]), rfl⟩
  · have e : signedF n b = (n, 0) := by unfold signedF; rw [if_neg h1, if_pos h2]
    exact ⟨ret_ii (by rw [e]) (by rw [e]), rfl⟩
  · have e : signedF n b = (0, 10) := by unfold signedF; rw [if_neg h1, if_neg (by omega)]
    exact ⟨ret_ii (by rw [e]) (by rw [e]), rfl⟩

def digitB (c : UInt8) : Bool := decide (48 ≤ c.toNat) && decide (c.toNat ≤ 57)
theorem digitB_true (c : UInt8) (h1 : 48 ≤ c.toNat) (h2 : c.toNat ≤ 57) : digitB c = true := by unfold digitB; rw [decide_eq_true h1, decide_eq_true h2]; rfl
theorem digitB_false (c : UInt8) (h : c.toNat < 48 ∨ 57 < c.toNat) : digitB c = false := by
  unfold digitB
  rcases h with h | h
  · rw [decide_eq_false (by omega : ¬ 48 ≤ c.toNat)]; rfl
  · rw [decide_eq_false (by omega : ¬ c.toNat ≤ 57), Bool.and_false]
theorem digitB_le {c : UInt8} (h : digitB c = true) : 48 ≤ c.toNat ∧ c.toNat ≤ 57 := by unfold digitB at h; simpa using h
def readN (l : List UInt8) : Nat := l.foldl (fun n c => 10 * n + (c.toNat - 48)) 0
theorem readN_snoc (l : List UInt8) (c : UInt8) : readN (l ++ [c]) = 10 * readN l + (c.toNat - 48) := by simp [readN, List.foldl_append]
theorem readFold_lt (l : List UInt8) : ∀ a : Nat, l.all digitB = true → l.foldl (fun n c => 10 * n + (c.toNat - 48)) a < (a + 1) * 10 ^ l.length := by
  induction l with
  | nil => intro a _; simp
  | cons c l ih =>
    intro a h
    rw [List.all_cons] at h
    simp only [Bool.and_eq_true] at h
    have h2 : c.toNat ≤ 57 := by have := h.1; simp [digitB] at this; omega
    have h1 := ih (10 * a + (c.toNat - 48)) h.2
    rw [List.foldl_cons, List.length_cons, Nat.pow_succ]
    have h3 : (10 * a + (c.toNat - 48) + 1) * 10 ^ l.length ≤ ((a + 1) * 10) * 10 ^ l.length := Nat.mul_le_mul_right _ (by omega)
    have h4 : (a + 1) * (10 ^ l.length * 10) = ((a + 1) * 10) * 10 ^ l.length := by rw [Nat.mul_comm (10 ^ l.length) 10, Nat.mul_assoc]
    omega
theorem readN_lt (l : List UInt8) (h : l.all digitB = true) : readN l < 10 ^ l.length := by
  have := readFold_lt l 0 h
  rw [Nat.zero_add, Nat.one_mul] at this
  exact this
/-- Reading a text as a number, and the error. -/
def readG (s t : ByteArray) (b : Bool) : Int × Int :=
  if t.size = 0 then (0, 1) else if (t.data.toList.getD 0 0).toNat = 48 ∧ ¬ s.toList = [48] then (0, 1)
  else if t.data.toList.all digitB = true then (if 19 < t.size then (0, 10) else signedF (readN t.data.toList) b) else (0, 1)
def readF (s : ByteArray) : Int × Int := readG s (restOf s) (belowOf s)

theorem empty_iff (t : ByteArray) (h : t.size = 0) : t.toList.isEmpty = true := by
  rw [ByteArray.toList_eq]; rw [List.isEmpty_iff]; exact List.eq_nil_of_length_eq_zero (by simpa using h)
theorem nonempty_iff (t : ByteArray) (h : ¬ t.size = 0) : t.toList.isEmpty = false := by
  rw [ByteArray.toList_eq]
  cases hl : t.data.toList with
  | nil => exact absurd (by have := congrArg List.length hl; simpa using this) h
  | cons _ _ => rfl

theorem cut_gen (s t : ByteArray) (b : Bool) (w : World) (hs : s.size ≤ maxLen) (ht : Hid (restOf s = t)) (hb : Hid (belowOf s = b)) :
    Calls Tryd.prog 14 #[.string s, .string ⟨#[45]⟩] w fun e w' => e = .returned (.tuple #[.string t, .bool b]) ∧ w = w' := by
  rw [← ht.out, ← hb.out]; exact cut_any s w hs

set_option maxHeartbeats 400000 in
theorem read_empty (s t : ByteArray) (b : Bool) (w : World) (hs : s.size ≤ maxLen) (ht : Hid (restOf s = t)) (hb : Hid (belowOf s = b)) (h' : t.toList.isEmpty = true) :
    Calls Tryd.prog 12 #[.string s] w fun e w' => e = .returned (.tuple #[.int .i64 0, .int .i64 1]) ∧ w = w' := by
  go_enter Tryd.func12, Tryd.ntmps12
  go_wp2_with (go_at_call 14; refine (cut_gen _ _ _ _ hs ht hb).mono ?_; rintro e w' ⟨rfl, rfl⟩)
  go_ret2
  exact ⟨rfl, rfl⟩
theorem read_zero (s t : ByteArray) (b : Bool) (w : World) (hs : s.size ≤ maxLen) (ht : Hid (restOf s = t)) (hb : Hid (belowOf s = b)) (h' : t.toList.isEmpty = false) (hp : 0 < t.size)
    (h1 : ((t[0].toNat : Int) == 48) = true) (h2 : (s.toList == [48]) = false) :
    Calls Tryd.prog 12 #[.string s] w fun e w' => e = .returned (.tuple #[.int .i64 0, .int .i64 1]) ∧ w = w' := by
  go_enter Tryd.func12, Tryd.ntmps12
  go_wp2_with (go_at_call 14; refine (cut_gen _ _ _ _ hs ht hb).mono ?_; rintro e w' ⟨rfl, rfl⟩)
  go_ret2
  exact ⟨rfl, rfl⟩
theorem all_take (l : List UInt8) (k : Nat) (h : k < l.length) (h1 : (l.take k).all digitB = true) (h2 : digitB l[k] = true) : (l.take (k + 1)).all digitB = true := by
  rw [List.take_succ_eq_append_getElem h, List.all_append, h1]; simpa using h2

theorem all_take_of (l : List UInt8) (k : Nat) (h : l.all digitB = true) : (l.take k).all digitB = true := by
  rw [List.all_eq_true] at h ⊢
  exact fun x hx => h x (List.mem_of_mem_take hx)
theorem all_at (l : List UInt8) (k : Nat) (hk : k < l.length) (h : l.all digitB = true) : digitB l[k] = true := by
  rw [List.all_eq_true] at h
  exact h _ (List.getElem_mem hk)
set_option maxHeartbeats 800000 in
theorem read_mid (s t : ByteArray) (b : Bool) (w : World) (hs : s.size ≤ maxLen) (hts : t.size ≤ 9223372036854775807) (ht : Hid (restOf s = t)) (hb : Hid (belowOf s = b)) (h' : t.toList.isEmpty = false) (hp : 0 < t.size)
    (h1 : ((t[0].toNat : Int) == 48) = false ∨ (((t[0].toNat : Int) == 48) = true ∧ (s.toList == [48]) = true)) (r : Int × Int)
    (hr1 : Hid (∀ k, k < t.size → digitB (t.data.toList.getD k 0) = false → r = (0, 1))) (hr2 : Hid (t.data.toList.all digitB = true → r = if 19 < t.size then (0, 10) else signedF (readN t.data.toList) b)) :
    Calls Tryd.prog 12 #[.string s] w fun e w' => e = .returned (.tuple #[.int .i64 r.1, .int .i64 r.2]) ∧ w = w' := by
  rcases h1 with h1 | ⟨h1, h2⟩
  all_goals
    go_enter Tryd.func12, Tryd.ntmps12
    go_wp2_with (go_at_call 14; refine (cut_gen _ _ _ _ hs ht hb).mono ?_; rintro e w' ⟨rfl, rfl⟩)
    go_loop [27] (fun i => ∃ k : Nat, k ≤ t.size ∧ i = .int .i64 k ∧ Hid ((t.data.toList.take k).all digitB = true)) (fun i => t.size - (intOf i).toNat)
    case atStart => exact ⟨0, Nat.zero_le _, rfl, rfl⟩
    case round =>
      obtain ⟨k, hk, rfl, hd⟩ := hrel
      by_cases hks : k < t.size
      · have hkd := Lib.hid (get_getD t k hks)
        have hkn : k < t.data.toList.length := by simpa using hks
        go_wp2
        all_goals first
          | (go_round
             case rel =>
               refine ⟨k + 1, by omega, by go_num, ?_⟩
               refine all_take _ k hkn hd.out ?_
               have e : t.data.toList[k] = t[k] := rfl
               rw [e]; exact digitB_true _ (by omega) (by omega)
             case measure => simp [intOf]; omega)
          | (go_ret2
             have e := hr1.out k hks (by rw [← hkd.out]; exact digitB_false _ (by omega))
             rw [e]
             exact ⟨rfl, rfl⟩)
      · have hk : k = t.size := by omega
        subst hk
        have hall : t.data.toList.all digitB = true := by
          have := hd.out
          rwa [List.take_of_length_le (by simp)] at this
        have Hr := Lib.hid (hr2.out hall)
        have Hall := Lib.hid hall
        clear hall
        by_cases h19 : 19 < t.size
        · go_wp2
          go_ret2
          rw [Hr.out, if_pos h19]
          exact ⟨rfl, rfl⟩
        · go_wp2
          go_loop [7, 46] (fun n i => ∃ k : Nat, k ≤ t.size ∧ i = .int .i64 k ∧ n = .int .u64 (readN (t.data.toList.take k) : Nat)) (fun _ i => t.size - (intOf i).toNat)
          case atStart => exact ⟨0, Nat.zero_le _, rfl, rfl⟩
          case round =>
            obtain ⟨k, hk, rfl, rfl⟩ := hrel
            by_cases hks : k < t.size
            · have hkn : k < t.data.toList.length := by simpa using hks
              have hlt : readN (t.data.toList.take k) < 1000000000000000000 := by
                have h1 := readN_lt (t.data.toList.take k) (all_take_of _ k Hall.out)
                have h2 : (t.data.toList.take k).length ≤ 18 := by rw [List.length_take]; omega
                exact Nat.lt_of_lt_of_le h1 (Nat.pow_le_pow_right (by omega) h2)
              have hsn : Hid (readN (t.data.toList.take (k + 1)) = 10 * readN (t.data.toList.take k) + (t[k].toNat - 48)) := by
                show _ = _
                rw [Crc.take_snoc t k hks, readN_snoc]
              have hc : 48 ≤ t[k].toNat ∧ t[k].toNat ≤ 57 := digitB_le (all_at _ k hkn Hall.out)
              generalize readN (t.data.toList.take k) = n at *
              go_wp2
              go_round
              case rel => exact ⟨k + 1, by omega, by go_num, by rw [hsn.out]; congr 1; omega⟩
              case measure => simp [intOf]; omega
            · have hk : k = t.size := by omega
              subst hk
              have hl : List.take t.size t.data.toList = t.data.toList := List.take_of_length_le (by simp)
              rw [hl]
              go_wp2_with (go_at_call 15; refine (signed_any _ _ _ (by omega)).mono ?_; rintro e w' ⟨rfl, rfl⟩)
              go_ret2
              rw [Hr.out, if_neg h19]
              exact ⟨rfl, rfl⟩
theorem read_any (s : ByteArray) (w : World) (hs : s.size ≤ maxLen) :
    Calls Tryd.prog 12 #[.string s] w fun e w' => e = .returned (.tuple #[.int .i64 (readF s).1, .int .i64 (readF s).2]) ∧ w = w' := by
  have hrs := restOf_size s
  have hts : (restOf s).size ≤ 9223372036854775807 := by unfold maxLen at hs; omega
  by_cases h : (restOf s).size = 0
  · have e : readF s = (0, 1) := by unfold readF readG; rw [if_pos h]
    rw [e]; exact read_empty s _ _ w hs rfl rfl (empty_iff _ h)
  · have hp : 0 < (restOf s).size := by omega
    by_cases hz : ((restOf s).data.toList.getD 0 0).toNat = 48 ∧ ¬ s.toList = [48]
    · have e : readF s = (0, 1) := by unfold readF readG; rw [if_neg h, if_pos hz]
      rw [e]; exact read_zero s _ _ w hs rfl rfl (nonempty_iff _ h) hp (by rw [get_getD _ 0 hp, hz.1]; rfl) (by simpa using hz.2)
    · refine read_mid s _ _ w hs hts rfl rfl (nonempty_iff _ h) hp ?_ (readF s) ?_ ?_
      · rw [get_getD _ 0 hp]
        by_cases h0 : ((restOf s).data.toList.getD 0 0).toNat = 48
        · right; rw [h0]; exact ⟨rfl, by simpa using (Classical.not_not.mp (fun hc => hz ⟨h0, hc⟩) : s.toList = [48])⟩
        · left; rw [beq_eq_false_iff_ne]; intro hc; exact h0 (by omega)
      · intro k hk hd
        unfold readF readG
        rw [if_neg h, if_neg hz, if_neg]
        intro hall
        have := all_at _ k (by simpa using hk) hall
        rw [List.getD_eq_getElem?_getD, List.getElem?_eq_getElem (by simpa using hk)] at hd
        rw [Option.getD_some] at hd
        rw [hd] at this; cases this
      · intro hall
        unfold readF readG
        rw [if_neg h, if_neg hz, if_pos hall]

end Go.Proofs.YtffbiapdcplipaaDoor
