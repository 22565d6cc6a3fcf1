/-
  Quote (function 11): one double quote, the field with every double quote doubled, one double quote: a loop that appends to a slice of its own.
-/
import Derived.Test.YmwhauParts
namespace Go.Proofs.Ymwhau
open Go.RowKit Plain

set_option maxHeartbeats 800000 in
set_option maxRecDepth 1000000 in
theorem quote_any (s : ByteArray) (w : World) (hs : s.size ≤ 4096) :
    Calls Yauv.prog 11 #[.string s] w fun e w' => e = .returned (.string ⟨(quo s.data.toList ++ [34]).toArray⟩) ∧ Below w.heap.size w w' := by
  go_enter Yauv.func11, Yauv.ntmps11
  go_wp2
  go_loopw [3, 4] (fun v i wr => ∃ k : Nat, k ≤ s.size ∧ i = .int .i64 k ∧ Holds w wr v (quo (s.data.toList.take k))) (fun _ i _ => s.size - (intOf i).toNat)
  case atStart => exact ⟨0, Nat.zero_le _, rfl, Holds.start w⟩
  case round =>
    obtain ⟨k, hk, rfl, hold⟩ := hrel
    have hql := quo_take_len s k
    have hq : (quo (s.data.toList.take k)).length ≤ 10000 := by omega
    clear hql
    by_cases hlt : k < s.size
    · have HS : Hid (quo (s.data.toList.take (k + 1)) = quo (s.data.toList.take k) ++ dbl s[k]) := by
        rw [take_snoc s k hlt]; exact quo_snoc _ _
      by_cases h1 : (s[k].toNat : Int) = 34
      · have HD : Hid (dbl s[k] = [34, s[k]]) := dbl_quote _ h1
        go_wp2_with (first | (at_builtin; obtain ⟨i0, hi, hz0, hz1, hz2⟩ := info_parts Yauv.info5; refine wpList_append_own _ rfl (.tmp 16) (.tmp 17) 27 rfl w.heap.size 5 i0 (.int .u8 0) 1 1 Yauv.underlying27 hi hz0 hz1 hz2 rfl (by decide) _ _ _ rfl (hold.own.alloc _) ⟨wr.heap.size, 0, none⟩ 1 1 [.int .u8 34] rfl rfl (push_new _ _) (push_one _) (push_max hq) (push_room hq) (hold.base _) ?_))
        intro v1 w1 ho hg _
        have hold1 := hold.push 34 rfl rfl ho hg
        clear ho hg
        have hq1 : (quo (s.data.toList.take k) ++ [34]).length ≤ 10000 := by have := quo_take_len s k; simp; omega
        clear hold hq
        go_wp2_with (first | (at_builtin; obtain ⟨i0, hi, hz0, hz1, hz2⟩ := info_parts Yauv.info5; refine wpList_append_own _ rfl (.tmp 19) (.tmp 23) 27 rfl w.heap.size 5 i0 (.int .u8 0) 1 1 Yauv.underlying27 hi hz0 hz1 hz2 rfl (by decide) _ _ _ rfl (hold1.own.alloc _) ⟨w1.heap.size, 0, none⟩ 1 1 [.int .u8 34] rfl rfl (push_new _ _) (push_one _) (push_max hq1) (push_room hq1) (hold1.base _) ?_))
        intro v2 w2 ho hg _
        have hold2 := hold1.push s[k] h1.symm (by simp) ho hg
        clear ho hg
        go_wp2
        go_roundw
        case rel => exact ⟨k + 1, by omega, by go_num, by rw [HS.out, HD.out]; simpa using hold2⟩
        case measure => simp [intOf]; omega
      · have HD : Hid (dbl s[k] = [s[k]]) := dbl_plain _ h1
        have b1 : ((s[k].toNat : Int) == 34) = false := beq_eq_false_iff_ne.2 h1
        go_wp2_with (first | (at_builtin; obtain ⟨i0, hi, hz0, hz1, hz2⟩ := info_parts Yauv.info5; refine wpList_append_own _ rfl (.tmp 19) (.tmp 23) 27 rfl w.heap.size 5 i0 (.int .u8 0) 1 1 Yauv.underlying27 hi hz0 hz1 hz2 rfl (by decide) _ _ _ rfl (hold.own.alloc _) ⟨wr.heap.size, 0, none⟩ 1 1 [.int .u8 (s[k].toNat : Int)] rfl rfl (push_new _ _) (push_one _) (push_max hq) (push_room hq) (hold.base _) ?_))
        intro v2 w2 ho hg _
        have hold2 := hold.push s[k] rfl rfl ho hg
        clear ho hg
        go_wp2
        go_roundw
        case rel => exact ⟨k + 1, by omega, by go_num, by rw [HS.out, HD.out]; exact hold2⟩
        case measure => simp [intOf]; omega
    · have hall : Hid (s.data.toList.take k = s.data.toList) := take_all s k (by omega)
      go_wp2_with (first | (at_builtin; obtain ⟨i0, hi, hz0, hz1, hz2⟩ := info_parts Yauv.info5; refine wpList_append_own _ rfl (.tmp 25) (.tmp 26) 27 rfl w.heap.size 5 i0 (.int .u8 0) 1 1 Yauv.underlying27 hi hz0 hz1 hz2 rfl (by decide) _ _ _ rfl (hold.own.alloc _) ⟨wr.heap.size, 0, none⟩ 1 1 [.int .u8 34] rfl rfl (push_new _ _) (push_one _) (push_max hq) (push_room hq) (hold.base _) ?_))
      intro v2 w2 ho hg _
      have hold2 := hold.push 34 rfl rfl ho hg
      clear ho hg
      have ht := hold2.str (by simp)
      go_wp2
      go_ret
      exact ⟨by rw [hall.out]; rfl, hold2.below⟩
end Go.Proofs.Ymwhau
