/-
  THE PLAIN PART: lists of bytes, no Go in sight. 'badB': LF or CR. 'needB': a comma or a double quote. 'quo l': one double quote, then l with every double quote doubled (the closing one is not yet there).
-/
import Derived.WalkKit
namespace Go.Proofs.Ymwhau.Plain

def badB (c : UInt8) : Bool := c == 10 || c == 13
def needB (c : UInt8) : Bool := c == 44 || c == 34
def dbl (c : UInt8) : List UInt8 := if c == 34 then [34, c] else [c]
def quo (l : List UInt8) : List UInt8 := 34 :: l.flatMap dbl
def anyBad (l : List UInt8) : Bool := l.any badB
def anyNeed (l : List UInt8) : Bool := l.any needB

/-- What EncodeField, and the model beside it, hand back. -/
def encS (s : ByteArray) : ByteArray :=
  if anyBad s.data.toList then ⟨#[]⟩ else if anyNeed s.data.toList then ⟨(quo s.data.toList ++ [34]).toArray⟩ else s
def encB (s : ByteArray) : Bool := !anyBad s.data.toList

theorem enc_bad (s : ByteArray) (h : anyBad s.data.toList = true) : encS s = ⟨#[]⟩ ∧ encB s = false := by simp [encS, encB, h]
theorem enc_quoted (s : ByteArray) (h : anyBad s.data.toList = false) (h1 : anyNeed s.data.toList = true) : encS s = ⟨(quo s.data.toList ++ [34]).toArray⟩ ∧ encB s = true := by simp [encS, encB, h, h1]
theorem enc_plain (s : ByteArray) (h : anyBad s.data.toList = false) (h1 : anyNeed s.data.toList = false) : encS s = s ∧ encB s = true := by simp [encS, encB, h, h1]

theorem take_snoc (s : ByteArray) (k : Nat) (h : k < s.size) : s.data.toList.take (k + 1) = s.data.toList.take k ++ [s[k]] := by
  rw [List.take_succ_eq_append_getElem (by simpa using h)]; rfl

theorem take_all (s : ByteArray) (k : Nat) (h : s.size ≤ k) : s.data.toList.take k = s.data.toList :=
  List.take_of_length_le (by simpa using h)

theorem dbl_len (c : UInt8) : (dbl c).length ≤ 2 := by
  unfold dbl; split <;> simp

theorem flat_len (l : List UInt8) : (l.flatMap dbl).length ≤ 2 * l.length := by
  induction l with
  | nil => simp
  | cons c l ih =>
    have := dbl_len c
    simp only [List.flatMap_cons, List.length_append, List.length_cons]
    omega

theorem quo_len (l : List UInt8) : (quo l).length ≤ 2 * l.length + 1 := by
  have := flat_len l
  simp only [quo, List.length_cons]
  omega

theorem quo_take_len (s : ByteArray) (k : Nat) : (quo (s.data.toList.take k)).length ≤ 2 * k + 1 := by
  have h1 := quo_len (s.data.toList.take k)
  have h2 : (s.data.toList.take k).length ≤ k := List.length_take_le _ _
  omega

theorem quo_nil : quo [] = [34] := rfl

theorem quo_snoc (l : List UInt8) (c : UInt8) : quo (l ++ [c]) = quo l ++ dbl c := by
  simp [quo, List.flatMap_append]

/-- A byte against a constant, as Go's '==' on the number reads. -/
theorem byte_iff (c d : UInt8) : (c == d) = true ↔ (c.toNat : Int) = (d.toNat : Int) := by
  rw [beq_iff_eq, ← UInt8.toNat_inj]
  omega

theorem bad_iff (c : UInt8) : badB c = true ↔ (c.toNat : Int) = 10 ∨ (c.toNat : Int) = 13 := by
  have h1 := byte_iff c 10
  have h2 := byte_iff c 13
  simp only [badB, Bool.or_eq_true]
  rw [h1, h2]
  exact Iff.rfl

theorem need_iff (c : UInt8) : needB c = true ↔ (c.toNat : Int) = 44 ∨ (c.toNat : Int) = 34 := by
  have h1 := byte_iff c 44
  have h2 := byte_iff c 34
  simp only [needB, Bool.or_eq_true]
  rw [h1, h2]
  exact Iff.rfl

theorem bad_no (c : UInt8) (h1 : ¬ (c.toNat : Int) = 10) (h2 : ¬ (c.toNat : Int) = 13) : badB c = false := by
  cases h : badB c with
  | false => rfl
  | true => rcases (bad_iff c).1 h with h | h <;> contradiction

theorem need_no (c : UInt8) (h1 : ¬ (c.toNat : Int) = 44) (h2 : ¬ (c.toNat : Int) = 34) : needB c = false := by
  cases h : needB c with
  | false => rfl
  | true => rcases (need_iff c).1 h with h | h <;> contradiction

theorem dbl_quote (c : UInt8) (h : (c.toNat : Int) = 34) : dbl c = [34, c] := by
  unfold dbl; rw [if_pos ((byte_iff c 34).2 h)]

theorem dbl_plain (c : UInt8) (h : ¬ (c.toNat : Int) = 34) : dbl c = [c] := by
  unfold dbl; rw [if_neg (fun e => h ((byte_iff c 34).1 e))]

theorem anyBad_snoc (l : List UInt8) (c : UInt8) : anyBad (l ++ [c]) = (anyBad l || badB c) := by simp [anyBad]
theorem anyNeed_snoc (l : List UInt8) (c : UInt8) : anyNeed (l ++ [c]) = (anyNeed l || needB c) := by simp [anyNeed]

theorem any_of_take (p : UInt8 → Bool) (l : List UInt8) (k : Nat) (h : (l.take k).any p = true) : l.any p = true := by
  rw [List.any_eq_true] at h ⊢
  obtain ⟨x, hx, hp⟩ := h
  exact ⟨x, List.mem_of_mem_take hx, hp⟩

theorem anyBad_at (s : ByteArray) (k : Nat) (h : k < s.size) (hb : badB s[k] = true) : anyBad s.data.toList = true := by
  refine any_of_take _ _ (k + 1) ?_
  rw [take_snoc s k h]; simp [hb]

theorem anyNeed_at (s : ByteArray) (k : Nat) (h : k < s.size) (hb : needB s[k] = true) : anyNeed s.data.toList = true := by
  refine any_of_take _ _ (k + 1) ?_
  rw [take_snoc s k h]; simp [hb]

theorem anyBad_take (s : ByteArray) (k : Nat) (h : k < s.size) (h0 : anyBad (s.data.toList.take k) = false) (hb : badB s[k] = false) : anyBad (s.data.toList.take (k + 1)) = false := by
  rw [take_snoc s k h, anyBad_snoc, h0, hb]; rfl

theorem anyNeed_take (s : ByteArray) (k : Nat) (h : k < s.size) (h0 : anyNeed (s.data.toList.take k) = false) (hb : needB s[k] = false) : anyNeed (s.data.toList.take (k + 1)) = false := by
  rw [take_snoc s k h, anyNeed_snoc, h0, hb]; rfl

theorem anyNeed_step (s : ByteArray) (k : Nat) (h : k < s.size) (b : Bool) (h0 : b = anyNeed (s.data.toList.take k)) : (b || needB s[k]) = anyNeed (s.data.toList.take (k + 1)) := by
  rw [take_snoc s k h, anyNeed_snoc, h0]

end Go.Proofs.Ymwhau.Plain
