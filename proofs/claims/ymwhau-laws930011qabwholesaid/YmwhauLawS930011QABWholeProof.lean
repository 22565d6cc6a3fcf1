/-
  THE PROOF OF 'Rows.LawS930011QABWholeSaid' (csvline.LawS930011QABWhole): EncodeField (function 7) by its callees' contracts; the law (function 4) out of the contracts; the row's step.
  The frame is the given shell's, with 'Below' in the place of 'Grown' and 'post' limb by limb (the guide's own way where an append may grow).
-/
import Derived.Test.YmwhauRows
import Derived.WalkKit
import Derived.ProofKit
import Derived.ShutString
import Derived.ChangeOld
import Derived.Below
import Derived.Test.YmwhauPlain
import Derived.Test.YmwhauFlags
import Derived.Test.YmwhauParts
import Derived.Test.YmwhauQuote
import Derived.Test.YmwhauModel
namespace Go.Proofs.Ymwhau.lawS930011QABWhole
open Go.ChangeShapes Go.WideShapes Go.ChangeAt Go.RowKit
open Go.ChangeMaps (open_string shut_string)
open Go.Proofs.Ymwhau.Plain

theorem own : ownKnob Yauv.prog.godebug = none := by kernel_rfl

/-! ### EncodeField, out of its callees' contracts -/
set_option maxHeartbeats 800000 in
theorem encode_any (s : ByteArray) (w : World) (hs : s.size ≤ 4096) :
    Calls Yauv.prog 7 #[.string s] w fun e w' => e = .returned (.tuple #[.string (encS s), .bool (encB s)]) ∧ Below w.heap.size w w' := by
  have HV : Hid (∀ w : World, Calls Yauv.prog 10 #[.string s] w fun e w' => e = .returned (.bool (!anyBad s.data.toList)) ∧ w' = w) := fun w => valid_any s w hs
  have HQ : Hid (∀ w : World, Calls Yauv.prog 5 #[.string s] w fun e w' => e = .returned (.bool (anyNeed s.data.toList)) ∧ w' = w) := fun w => needs_any s w hs
  cases hb : anyBad s.data.toList with
  | true =>
    have HE : Hid (encS s = ⟨#[]⟩ ∧ encB s = false) := enc_bad s hb
    rw [hb] at HV
    clear hb
    go_enter Yauv.func7, Yauv.ntmps7
    go_wp2_with (go_at_call 10; refine (HV.out _).mono ?_; rintro e w' ⟨rfl, rfl⟩)
    go_ret2
    exact ⟨ret_pair HE.out, Below.refl _ _⟩
  | false =>
    cases hn : anyNeed s.data.toList with
    | true =>
      have HE : Hid (encS s = ⟨(quo s.data.toList ++ [34]).toArray⟩ ∧ encB s = true) := enc_quoted s hb hn
      rw [hb] at HV
      rw [hn] at HQ
      clear hb hn
      go_enter Yauv.func7, Yauv.ntmps7
      go_wp2_with (first | (go_at_call 10; refine (HV.out _).mono ?_; rintro e w' ⟨rfl, rfl⟩) | (go_at_call 5; refine (HQ.out _).mono ?_; rintro e w' ⟨rfl, rfl⟩) | (go_at_call 11; refine (quote_any s _ hs).mono ?_; rintro e w1 ⟨rfl, hbel⟩))
      go_ret2
      exact ⟨ret_pair HE.out, by assumption⟩
    | false =>
      have HE : Hid (encS s = s ∧ encB s = true) := enc_plain s hb hn
      rw [hb] at HV
      rw [hn] at HQ
      clear hb hn
      go_enter Yauv.func7, Yauv.ntmps7
      go_wp2_with (first | (go_at_call 10; refine (HV.out _).mono ?_; rintro e w' ⟨rfl, rfl⟩) | (go_at_call 5; refine (HQ.out _).mono ?_; rintro e w' ⟨rfl, rfl⟩))
      go_ret2
      exact ⟨ret_pair HE.out, Below.refl _ _⟩

/-! ### THE WALK: the Go text returns true, and writes nothing that was there -/
set_option maxHeartbeats 800000 in
theorem walk (a0 : ByteArray) (w0 : a0.size ≤ maxLen) (w : World) :
    Calls Yauv.prog 4 #[.string a0] w fun e w' => e = .returned (.bool true) ∧ Below w.heap.size w w' := by
  unfold maxLen at w0
  by_cases hs : a0.size ≤ 4096
  · have hs' : ¬ (4096 : Int) < (a0.size : Int) := by omega
    go_enter Yauv.func4, Yauv.ntmps4
    go_wp2_with fail
    refine (encode_any a0 _ hs).mono ?_
    rintro e w1 ⟨rfl, hb1⟩
    go_wp2_with fail
    refine (model_any a0 _ hs).mono ?_
    rintro e w2 ⟨rfl, hb2⟩
    go_wp2
    go_ret
    exact ⟨rfl, hb1.trans (hb2.mono hb1.size)⟩
  · have hs' : (4096 : Int) < (a0.size : Int) := by omega
    go_enter Yauv.func4, Yauv.ntmps4
    go_wp2
    go_ret
    exact ⟨rfl, Below.refl _ _⟩

/-! ### THE ROW's STEP -/
set_option maxRecDepth 100000 in
theorem lifted (os : Os) (started : os.Started) (H : Type) (enc : TypeId × Value → H) :
    ReturnsInHanded {} Yauv.checked os 4 .any (Rows.lawS930011QABWholeSpec.pre6 enc Yauv.prog Yauv.f4 Rows.lawS930011QABWholeRow.domain false) (Rows.lawS930011QABWholeSpec.post enc Yauv.prog Yauv.f4 false true false false) := by
  refine returnsInHanded_of_change (C := Yauv.checked) own started (by kernel_rfl) Yauv.func4
    (ChangeSpec.witness6 (enc := enc) (C := Yauv.checked) false ⟨#[], #[.string ByteArray.empty], []⟩ 8 (by kernel_rfl) (by kernel_rfl) (by kernel_rfl) (by kernel_rfl)) ?_
  intro W base args ds gs before hval0 hW hcnd _
  have hval : ∀ (j : Nat) t v, Yauv.f4.params[j]? = some t → args[j]? = some v → Value.okWide Yauv.prog W .any base t v := hval0
  have hW' := hW
  obtain ⟨p, q, hA0, hV, rfl, hfz, hnd⟩ := hW
  have hA : DataW.TrodAll enc Yauv.prog W 0 (fun _ => true) true Yauv.f4.params.toList args.toList ds p := hA0
  rw [Yauv.params4] at hA hval
  obtain ⟨v0, vs0, d0, ds0, p0, q0, hargs, rfl, rfl, h0, r0⟩ := trodAll_cons hA
  obtain ⟨rfl, rfl, rfl⟩ := trodAll_nil r0
  obtain rfl : args = #[v0] := by cases args; simp_all
  obtain ⟨rfl, rfl⟩ := trodVars_none hV
  obtain ⟨a0, rfl, rfl, rfl, w0⟩ := open_string Yauv.underlying9 (hval 0 9 v0 rfl rfl) h0
  clear hA0 hval0
  refine (walk a0 w0 W).mono fun e W' ⟨he, bel⟩ => ?_
  subst he
  exact ⟨_, rfl, _, _, _, [], [], [], hW', trodAll_mk1 (shut_bool Yauv.underlying4 _), trodAll_mk1 (shut_string Yauv.underlying9 w0), rfl, bel.frame _, fun h => by cases h⟩

theorem over : Rows.lawS930011QABWholeRow.holds Yauv.pinned (OpenSpec.ofChange Rows.lawS930011QABWholeSpec) :=
  OpenClaim.holds_of_wide 4 Yauv.f4 rfl rfl rfl rfl rfl rfl rfl ⟨rfl, rfl, rfl, rfl, rfl⟩ rfl rfl rfl rfl rfl (by kernel_rfl) Yauv.func4 (by kernel_rfl)
    (of_decide_eq_true (by kernel_rfl)) (by unfold Func.isWrapper; first | (rw [if_pos (by decide +kernel)]; kernel_rfl) | (rw [if_neg (by decide +kernel)]; exact ⟨rfl, rfl⟩))
    (fun os started H enc _ => lifted os started H enc)

end Go.Proofs.Ymwhau.lawS930011QABWhole

namespace Go.Proofs.Ymwhau

/-- THE STATEMENT -/
theorem lawS930011QABWhole_proved : Rows.LawS930011QABWholeSaid := lawS930011QABWhole.over

end Go.Proofs.Ymwhau
