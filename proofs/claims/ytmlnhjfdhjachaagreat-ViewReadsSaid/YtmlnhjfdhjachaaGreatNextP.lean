/-
  Pairs behind changes; blocks that are kept beside a heap of the call's own. No condition.
-/
import Derived.Test.YtmlnhjfdhjachaaGreatFindL
import Derived.Test.YtmlnhjfdhjachaaGreatReadX
import Derived.Test.YtmlnhjfdhjachaaGreatTab6
namespace Go.Proofs.YtmlnhjfdhjachaaGreat
set_option linter.unusedVariables false
open Go.ChangeShapes Go.WideShapes Go.ChangeAt Go.RowKit
open Go.ChangeMaps (setBlock)

theorem OwnK.hold {w0 w : World} {hb : Nat} {S : PHeap} {F : Nat → Prop} {K : List (Nat × Obj)} (h : OwnK w0 hb S F K w) {g : Nat} {o : Obj} (hg : w.heap[g]? = some o) (hF : ¬ F g) : OwnK w0 hb S F ((g, o) :: K) w := ⟨h.own, fun x hx => by
  rcases List.mem_cons.1 hx with rfl | hx
  · exact ⟨hg, hF⟩
  · exact h.keep x hx⟩
theorem OwnK.sub {w0 w : World} {hb : Nat} {S : PHeap} {F : Nat → Prop} {K K' : List (Nat × Obj)} (h : OwnK w0 hb S F K w) (hs : ∀ x ∈ K', x ∈ K) : OwnK w0 hb S F K' w := ⟨h.own, fun x hx => h.keep x (hs x hx)⟩
/-- A new row takes the old one's place. -/
theorem OwnK.row {w0 w w' : World} {hb : Nat} {S : PHeap} {F : Nat → Prop} {a b : Nat × Obj} (h : OwnK w0 hb S F [a, b] w) {g : Nat} {o : Obj} (hb' : Below w.heap.size w w') (hg : w'.heap[g]? = some o) (hs : w.heap.size ≤ g) : OwnK w0 hb S F [(g, o), b] w' :=
  ((h.below hb').hold hg (fun hF => by have := h.own.heap.own _ hF; omega)).sub fun x hx => by
    simp only [List.mem_cons, List.not_mem_nil, or_false] at hx ⊢
    rcases hx with hx | hx
    · exact .inl hx
    · exact .inr (.inr hx)
/-- The pairs behind a change at an epoch. -/
def nextP (m : List (ByteArray × ByteArray)) (ch : PChange) (le : Bool) : List (ByteArray × ByteArray) :=
  if le then (if ch.has then putP (geP ch.key) ch.key ch.value m false else delP m ch.key) else m
theorem nextP_get (m : List (ByteArray × ByteArray)) (ch : PChange) (le : Bool) (t : ByteArray) : getP (nextP m ch le) t = if t = ch.key ∧ le = true then (ch.has, if ch.has then ch.value else ByteArray.empty) else getP m t := by
  unfold nextP
  cases le with
  | false => simp
  | true =>
    cases hh : ch.has with
    | true =>
      simp only [if_true]
      rw [getP_put]
      by_cases ht : t = ch.key
      · simp [ht]
      · simp [ht]
    | false =>
      simp only [if_true, Bool.false_eq_true, if_false]
      rw [getP_del]
      by_cases ht : t = ch.key
      · simp [ht]
      · simp [ht]
theorem nextP_len (m : List (ByteArray × ByteArray)) (ch : PChange) (le : Bool) : (nextP m ch le).length ≤ m.length + 1 := by
  unfold nextP
  split
  · split
    · exact putP_len _ _ _ _ _
    · have : (delP m ch.key).length ≤ m.length := List.length_filter_le _ _
      omega
  · omega
def cfgO (c : PCfg) : Obj := Obj.cells #[.int .i64 c.cap, .int .i64 c.pins, .int .i64 c.shelves, .int .i64 c.queue, .int .i64 c.watchers, .int .u64 c.seed] 24
theorem al1_below {w w1 wr : World} {hb : Nat} {S : PHeap} {F : Nat → Prop} {K : List (Nat × Obj)} (hz : Below w.heap.size w w1) (o : OwnK w1 hb S F K wr) : Below w.heap.size w wr := hz.trans (o.own.below.mono hz.size)
end Go.Proofs.YtmlnhjfdhjachaaGreat
