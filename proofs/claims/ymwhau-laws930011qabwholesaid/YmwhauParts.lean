/-
  WHAT AN APPEND OF ONE BYTE DOES TO A ROW OF BYTES THAT THE CALL ITSELF MADE; what 'string(out)' then gives. Lemmas outside the walks.
-/
import Derived.Test.YmwhauRows
import Derived.WalkKit
import Derived.Laws.IdiomStrings
import Derived.Test.YmwhauPlain
namespace Go.Proofs.Ymwhau
open Go.RowKit Plain

theorem Yauv.info5 : (Yauv.prog.info? 5).map (fun i => (i.zero, i.size, i.bytes)) = some (some (.int .u8 0), 1, 1) := by kernel_rfl

/-- The bytes as cells. -/
def bcells (l : List UInt8) : List Value := l.map (fun b => Value.int .u8 (b.toNat : Int))

theorem bcells_snoc (l : List UInt8) (c : UInt8) : bcells (l ++ [c]) = bcells l ++ [Value.int .u8 (c.toNat : Int)] := by simp [bcells]
theorem bcells_length (l : List UInt8) : (bcells l).length = l.length := by simp [bcells]

/-- The slice value v owns the bytes l, in blocks that are newer than the world w; below w's size nothing has turned. -/
structure Holds (w wr : World) (v : Value) (l : List UInt8) : Prop where
  own : wr.ownsRow w.heap.size 5 1 v l.length (bcells l)
  below : Below w.heap.size w wr

theorem Holds.start (w : World) : Holds w (w.alloc (.cells #[.int .u8 34] 5)) (.slice (some ⟨w.heap.size, 0, none⟩) 1 1) [34] :=
  ⟨⟨rfl, .inr ⟨w.heap.size, 1, #[.int .u8 34], rfl, Nat.le_refl _, heap_alloc_new w _, Nat.le_refl _, by decide, rfl, rfl⟩⟩,
    (Below.refl _ _).alloc (Nat.le_refl _) _⟩

theorem Holds.push {w wr w1 : World} {v v' : Value} {l : List UInt8} {o : Obj} (h : Holds w wr v l) (c : UInt8) {n : Int} (hn : n = (c.toNat : Int)) {m : Nat} (hm : m = l.length + 1)
    (hown' : w1.ownsRow w.heap.size 5 1 v' m (bcells l ++ [Value.int .u8 n])) (hg : (wr.alloc o).grownBy w1 v.ownBlock) :
    Holds w w1 v' (l ++ [c]) := by
  subst hn hm
  have hsz := h.below.size
  refine ⟨?_, (h.below.alloc hsz o).grown hg (by simp; omega) (fun j hj => (h.own.lt j hj).1)⟩
  rw [bcells_snoc, List.length_append]
  exact hown'

/-! 'out = append(out, c)': the side conditions of the guide's law on append: c lies in a new block of its own -/
theorem push_new (wr : World) (n : Int) : ∀ j u, [Value.int .u8 n][j]? = some u → (wr.alloc (.cells #[.int .u8 n] 5)).cell? ((⟨wr.heap.size, 0, none⟩ : Addr).add j) = some u := by
  intro j u hj
  match j, hj with
  | 0, hj => simp at hj; subst hj; simp [Addr.add]

theorem push_one (n : Int) : ∀ u ∈ [Value.int .u8 n], u.oneCell' = true := by
  intro u hu; simp at hu; subst hu; rfl

theorem push_max {n : Nat} (h : n ≤ 10000) : n + 1 ≤ maxLen := by unfold maxLen; omega
theorem push_room {n : Nat} (h : n ≤ 10000) : (n + 1) * 1 ≤ 140737488355328 := by omega
theorem Holds.base {w wr : World} {v : Value} {l : List UInt8} (h : Holds w wr v l) (o : Obj) : w.heap.size ≤ (wr.alloc o).heap.size := by
  have := h.below.size
  simp; omega

/-- 'string(out)' of such a row that is not empty. -/
theorem Holds.str {w wr : World} {v : Value} {l : List UInt8} (h : Holds w wr v l) (hl : 0 < l.length) :
    (convert 27 9 v).run Yauv.prog wr = .ok (.string ⟨l.toArray⟩) wr := by
  have hown := h.own
  rcases hown.2 with ⟨_, h0⟩ | ⟨g, cap, cur, rfl, _⟩
  · omega
  · refine run_convert_bytes_back wr 27 9 5 ⟨g, 0, none⟩ cap l Yauv.underlying27 Yauv.underlying5 Yauv.underlying9 (fun j hj => ?_)
    refine hown.cells (g := g) rfl j _ ?_
    simp [bcells, List.getElem?_eq_getElem hj]

end Go.Proofs.Ymwhau
