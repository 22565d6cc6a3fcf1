/-
  THE TWO FLAGS: ValidField (function 10) and NeedsQuote (function 5): a loop over a string; nothing is written.
-/
import Derived.Test.YmwhauRows
import Derived.WalkKit
import Derived.Test.YmwhauPlain
namespace Go.Proofs.Ymwhau
open Go.RowKit Plain

theorem ret_bool {a b : Bool} (h : a = b) : Ending.returned (.bool a) = .returned (.bool b) := by rw [h]

set_option maxHeartbeats 400000 in
/-- ValidField: no LF, no CR. -/
theorem valid_any (s : ByteArray) (w : World) (hs : s.size ≤ 4096) :
    Calls Yauv.prog 10 #[.string s] w fun e w' => e = .returned (.bool (!anyBad s.data.toList)) ∧ w' = w := by
  go_enter Yauv.func10, Yauv.ntmps10
  go_wp2
  go_loop [3] (fun i => ∃ k : Nat, k ≤ s.size ∧ i = .int .i64 k ∧ anyBad (s.data.toList.take k) = false) (fun i => s.size - (intOf i).toNat)
  case atStart => exact ⟨0, Nat.zero_le _, rfl, rfl⟩
  case round =>
    obtain ⟨k, hk, rfl, h0⟩ := hrel
    have H0 : Hid (anyBad (s.data.toList.take k) = false) := h0
    clear h0
    by_cases hlt : k < s.size
    · have HY : Hid ((s[k].toNat : Int) = 10 ∨ (s[k].toNat : Int) = 13 → anyBad s.data.toList = true) := fun h => anyBad_at s k hlt ((bad_iff _).2 h)
      have HN : Hid (¬ (s[k].toNat : Int) = 10 → ¬ (s[k].toNat : Int) = 13 → anyBad (s.data.toList.take (k + 1)) = false) := fun h1 h2 => anyBad_take s k hlt H0.out (bad_no _ h1 h2)
      by_cases h1 : (s[k].toNat : Int) = 10
      · go_wp2
        go_ret
        exact ⟨ret_bool (by rw [HY.out (.inl h1)]; rfl), rfl⟩
      · have b1 : ((s[k].toNat : Int) == 10) = false := beq_eq_false_iff_ne.2 h1
        by_cases h2 : (s[k].toNat : Int) = 13
        · go_wp2
          go_ret
          exact ⟨ret_bool (by rw [HY.out (.inr h2)]; rfl), rfl⟩
        · have b2 : ((s[k].toNat : Int) == 13) = false := beq_eq_false_iff_ne.2 h2
          go_wp2
          go_round
          case rel => exact ⟨k + 1, by omega, by go_num, HN.out h1 h2⟩
          case measure => simp [intOf]; omega
    · go_wp2
      go_ret
      exact ⟨ret_bool (by rw [← take_all s k (by omega), H0.out]; rfl), rfl⟩

set_option maxHeartbeats 400000 in
/-- NeedsQuote: a comma or a double quote somewhere. -/
theorem needs_any (s : ByteArray) (w : World) (hs : s.size ≤ 4096) :
    Calls Yauv.prog 5 #[.string s] w fun e w' => e = .returned (.bool (anyNeed s.data.toList)) ∧ w' = w := by
  go_enter Yauv.func5, Yauv.ntmps5
  go_wp2
  go_loop [3] (fun i => ∃ k : Nat, k ≤ s.size ∧ i = .int .i64 k ∧ anyNeed (s.data.toList.take k) = false) (fun i => s.size - (intOf i).toNat)
  case atStart => exact ⟨0, Nat.zero_le _, rfl, rfl⟩
  case round =>
    obtain ⟨k, hk, rfl, h0⟩ := hrel
    have H0 : Hid (anyNeed (s.data.toList.take k) = false) := h0
    clear h0
    by_cases hlt : k < s.size
    · have HY : Hid ((s[k].toNat : Int) = 44 ∨ (s[k].toNat : Int) = 34 → anyNeed s.data.toList = true) := fun h => anyNeed_at s k hlt ((need_iff _).2 h)
      have HN : Hid (¬ (s[k].toNat : Int) = 44 → ¬ (s[k].toNat : Int) = 34 → anyNeed (s.data.toList.take (k + 1)) = false) := fun h1 h2 => anyNeed_take s k hlt H0.out (need_no _ h1 h2)
      by_cases h1 : (s[k].toNat : Int) = 44
      · go_wp2
        go_ret
        exact ⟨ret_bool (HY.out (.inl h1)).symm, rfl⟩
      · have b1 : ((s[k].toNat : Int) == 44) = false := beq_eq_false_iff_ne.2 h1
        by_cases h2 : (s[k].toNat : Int) = 34
        · go_wp2
          go_ret
          exact ⟨ret_bool (HY.out (.inr h2)).symm, rfl⟩
        · have b2 : ((s[k].toNat : Int) == 34) = false := beq_eq_false_iff_ne.2 h2
          go_wp2
          go_round
          case rel => exact ⟨k + 1, by omega, by go_num, HN.out h1 h2⟩
          case measure => simp [intOf]; omega
    · go_wp2
      go_ret
      exact ⟨ret_bool (by rw [← take_all s k (by omega), H0.out]), rfl⟩
end Go.Proofs.Ymwhau
