/-
  zzs930011qabmodel (function 8): the one-pass model of EncodeField: a loop that appends to a slice of its own and leaves early at LF or CR.
-/
import Derived.Test.YmwhauParts
namespace Go.Proofs.Ymwhau
open Go.RowKit Plain

theorem ret_pair {a a' : ByteArray} {b b' : Bool} (h : a' = a ∧ b' = b) : Ending.returned (.tuple #[.string a, .bool b]) = .returned (.tuple #[.string a', .bool b']) := by rw [h.1, h.2]

set_option maxHeartbeats 1600000 in
set_option maxRecDepth 1000000 in
theorem model_any (s : ByteArray) (w : World) (hs : s.size ≤ 4096) :
    Calls Yauv.prog 8 #[.string s] w fun e w' => e = .returned (.tuple #[.string (encS s), .bool (encB s)]) ∧ Below w.heap.size w w' := by
  go_enter Yauv.func8, Yauv.ntmps8
  go_wp2
  go_loopw [4, 5, 6] (fun nd v i wr => ∃ (k : Nat) (b : Bool), k ≤ s.size ∧ i = .int .i64 k ∧ nd = .bool b ∧ Hid (b = anyNeed (s.data.toList.take k)) ∧ Hid (anyBad (s.data.toList.take k) = false) ∧ Holds w wr v (quo (s.data.toList.take k)))
    (fun _ _ i _ => s.size - (intOf i).toNat)
  case atStart => exact ⟨0, false, Nat.zero_le _, rfl, rfl, rfl, rfl, Holds.start w⟩
  case round =>
    obtain ⟨k, b, hk, rfl, rfl, HB, H0, hold⟩ := hrel
    have hql := quo_take_len s k
    have hq : (quo (s.data.toList.take k)).length ≤ 10000 := by omega
    clear hql
    by_cases hlt : k < s.size
    · by_cases h1 : (s[k].toNat : Int) = 10
      · have HE : Hid (encS s = ⟨#[]⟩ ∧ encB s = false) := enc_bad s (anyBad_at s k hlt ((bad_iff _).2 (.inl h1)))
        go_wp2
        go_ret2
        exact ⟨ret_pair HE.out, hold.below⟩
      · have b1 : ((s[k].toNat : Int) == 10) = false := beq_eq_false_iff_ne.2 h1
        by_cases h2 : (s[k].toNat : Int) = 13
        · have HE : Hid (encS s = ⟨#[]⟩ ∧ encB s = false) := enc_bad s (anyBad_at s k hlt ((bad_iff _).2 (.inr h2)))
          go_wp2
          go_ret2
          exact ⟨ret_pair HE.out, hold.below⟩
        · have b2 : ((s[k].toNat : Int) == 13) = false := beq_eq_false_iff_ne.2 h2
          have HS : Hid (quo (s.data.toList.take (k + 1)) = quo (s.data.toList.take k) ++ dbl s[k]) := by
            rw [take_snoc s k hlt]; exact quo_snoc _ _
          have H1 : Hid (anyBad (s.data.toList.take (k + 1)) = false) := anyBad_take s k hlt H0.out (bad_no _ h1 h2)
          have HN : Hid ((b || needB s[k]) = anyNeed (s.data.toList.take (k + 1))) := anyNeed_step s k hlt b HB.out
          by_cases h3 : (s[k].toNat : Int) = 34
          · have HD : Hid (dbl s[k] = [34, s[k]]) := dbl_quote _ h3
            have HT : Hid (true = anyNeed (s.data.toList.take (k + 1))) := by have := HN.out; rw [(need_iff _).2 (.inr h3), Bool.or_true] at this; exact this
            clear b1 b2 h1 h2
            go_wp2_with (first | (at_builtin; obtain ⟨i0, hi, hz0, hz1, hz2⟩ := info_parts Yauv.info5; refine wpList_append_own _ rfl (.tmp 32) (.tmp 33) 27 rfl w.heap.size 5 i0 (.int .u8 0) 1 1 Yauv.underlying27 hi hz0 hz1 hz2 rfl (by decide) _ _ _ rfl (hold.own.alloc _) ⟨wr.heap.size, 0, none⟩ 1 1 [.int .u8 34] rfl rfl (push_new _ _) (push_one _) (push_max hq) (push_room hq) (hold.base _) ?_))
            intro v1 w1 ho hg _
            have hold1 := hold.push 34 rfl rfl ho hg
            clear ho hg
            have hq1 : (quo (s.data.toList.take k) ++ [34]).length ≤ 10000 := by have := quo_take_len s k; simp; omega
            clear hold hq
            go_wp2_with (first | (at_builtin; obtain ⟨i0, hi, hz0, hz1, hz2⟩ := info_parts Yauv.info5; refine wpList_append_own _ rfl (.tmp 35) (.tmp 37) 27 rfl w.heap.size 5 i0 (.int .u8 0) 1 1 Yauv.underlying27 hi hz0 hz1 hz2 rfl (by decide) _ _ _ rfl (hold1.own.alloc _) ⟨w1.heap.size, 0, none⟩ 1 1 [.int .u8 34] rfl rfl (push_new _ _) (push_one _) (push_max hq1) (push_room hq1) (hold1.base _) ?_))
            intro v2 w2 ho hg _
            have hold2 := hold1.push s[k] h3.symm (by simp) ho hg
            clear ho hg
            go_wp2
            go_roundw
            case rel => exact ⟨k + 1, true, by omega, by go_num, rfl, HT, H1, by rw [HS.out, HD.out]; simpa using hold2⟩
            case measure => simp [intOf]; omega
          · have b3 : ((s[k].toNat : Int) == 34) = false := beq_eq_false_iff_ne.2 h3
            have HD : Hid (dbl s[k] = [s[k]]) := dbl_plain _ h3
            by_cases h4 : (s[k].toNat : Int) = 44
            · have HT : Hid (true = anyNeed (s.data.toList.take (k + 1))) := by have := HN.out; rw [(need_iff _).2 (.inl h4), Bool.or_true] at this; exact this
              clear b1 b2 b3 h1 h2 h3
              go_wp2_with (first | (at_builtin; obtain ⟨i0, hi, hz0, hz1, hz2⟩ := info_parts Yauv.info5; refine wpList_append_own _ rfl (.tmp 35) (.tmp 37) 27 rfl w.heap.size 5 i0 (.int .u8 0) 1 1 Yauv.underlying27 hi hz0 hz1 hz2 rfl (by decide) _ _ _ rfl (hold.own.alloc _) ⟨wr.heap.size, 0, none⟩ 1 1 [.int .u8 44] rfl rfl (push_new _ _) (push_one _) (push_max hq) (push_room hq) (hold.base _) ?_))
              intro v2 w2 ho hg _
              have hold2 := hold.push s[k] h4.symm rfl ho hg
              clear ho hg
              go_wp2
              go_roundw
              case rel => exact ⟨k + 1, true, by omega, by go_num, rfl, HT, H1, by rw [HS.out, HD.out]; exact hold2⟩
              case measure => simp [intOf]; omega
            · have b4 : ((s[k].toNat : Int) == 44) = false := beq_eq_false_iff_ne.2 h4
              have HT : Hid (b = anyNeed (s.data.toList.take (k + 1))) := by have := HN.out; rw [need_no _ h4 h3, Bool.or_false] at this; exact this
              go_wp2_with (first | (at_builtin; obtain ⟨i0, hi, hz0, hz1, hz2⟩ := info_parts Yauv.info5; refine wpList_append_own _ rfl (.tmp 35) (.tmp 37) 27 rfl w.heap.size 5 i0 (.int .u8 0) 1 1 Yauv.underlying27 hi hz0 hz1 hz2 rfl (by decide) _ _ _ rfl (hold.own.alloc _) ⟨wr.heap.size, 0, none⟩ 1 1 [.int .u8 (s[k].toNat : Int)] rfl rfl (push_new _ _) (push_one _) (push_max hq) (push_room hq) (hold.base _) ?_))
              intro v2 w2 ho hg _
              have hold2 := hold.push s[k] rfl rfl ho hg
              clear ho hg
              go_wp2
              go_roundw
              case rel => exact ⟨k + 1, b, by omega, by go_num, rfl, HT, H1, by rw [HS.out, HD.out]; exact hold2⟩
              case measure => simp [intOf]; omega
    · have hall : Hid (s.data.toList.take k = s.data.toList) := take_all s k (by omega)
      have HC : Hid (anyBad s.data.toList = false) := by rw [← hall.out]; exact H0.out
      have HN : Hid (b = anyNeed s.data.toList) := by have := HB.out; rw [hall.out] at this; exact this
      cases b with
      | false =>
        have HE : Hid (encS s = s ∧ encB s = true) := enc_plain s HC.out HN.out.symm
        go_wp2
        go_ret2
        exact ⟨ret_pair HE.out, hold.below⟩
      | true =>
        have HE : Hid (encS s = ⟨(quo (s.data.toList.take k) ++ [34]).toArray⟩ ∧ encB s = true) := by rw [hall.out]; exact enc_quoted s HC.out HN.out.symm
        go_wp2_with (first | (at_builtin; obtain ⟨i0, hi, hz0, hz1, hz2⟩ := info_parts Yauv.info5; refine wpList_append_own _ rfl (.tmp 42) (.tmp 43) 27 rfl w.heap.size 5 i0 (.int .u8 0) 1 1 Yauv.underlying27 hi hz0 hz1 hz2 rfl (by decide) _ _ _ rfl (hold.own.alloc _) ⟨wr.heap.size, 0, none⟩ 1 1 [.int .u8 34] rfl rfl (push_new _ _) (push_one _) (push_max hq) (push_room hq) (hold.base _) ?_))
        intro v2 w2 ho hg _
        have hold2 := hold.push 34 rfl rfl ho hg
        clear ho hg
        have ht := hold2.str (by simp)
        go_wp2
        go_ret2
        exact ⟨ret_pair HE.out, hold2.below⟩
end Go.Proofs.Ymwhau
