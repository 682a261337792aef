/-
  fail.Known, name, Text; the document's Known, Digits, Text. No condition.
-/
import Derived.Test.YtgnjjlbdiagklaaDoorPlaces
import Derived.Test.YtgnjjlbdiagklaaDoorBuilder
import Derived.Test.YtgnjjlbdiagklaaDoorSeptet2
import Derived.Lib.AppendIntMem
import Derived.Lib.SmallJoins
import Derived.Laws.Tables
import Derived.Great.Walk
namespace Go.Proofs.YtgnjjlbdiagklaaDoor
set_option linter.unusedVariables false
open Go.RowKit Go.Extern.Stop Go.Stop Go.Extern Go.ChangeShapes

/-- The table of powers that the library's numerals read. -/
def PTab (w : World) : Prop := Lib.TabIs Tryd.prog w "internal/strconv.uint64pow10" .u64 Lib.pow10Tab
theorem ptGlobal : Tryd.prog.globalNamed "internal/strconv.uint64pow10" = some 21 := by kernel_rfl
theorem PTab.below {w w' : World} (h : PTab w) (hb : Below w.heap.size w w') : PTab w' := Joins.tab_stays ptGlobal h hb (Nat.le_refl _)
theorem itoa_any {w : World} (h : PTab w) (n : Int) (h0 : -9223372036854775808 ≤ n) (h1 : n ≤ 9223372036854775807) :
    Calls Tryd.prog 52 #[.int .i64 n] w fun e w' => e = .returned (strL (Lib.itoa n)) ∧ Below w.heap.size w w' := by
  refine (Tryd.strconv_Itoa n h0 h1 w h).mono ?_
  rintro e w' ⟨rfl, k, os, rfl⟩
  exact ⟨rfl, Lib.below_grow _ _ (Nat.le_refl _) _ _⟩
def knownB (c : Int) : Bool := decide ((0 ≤ c ∧ c ≤ 18) ∨ c = 99)
theorem known_any (c : Int) (w : World) : Calls Tryd.prog 29 #[.int .i64 c] w fun e w' => e = .returned (.bool (knownB c)) ∧ w = w' := by
  have hcase : c < 0 ∨ (0 ≤ c ∧ c ≤ 18) ∨ (18 < c ∧ c ≠ 99) ∨ c = 99 := by omega
  rcases hcase with h | h | h | rfl
  · have e : knownB c = false := decide_eq_false (by omega)
    rw [e]
    go_enter Tryd.func29, Tryd.ntmps29
    go_wp2
    go_ret
    exact ⟨rfl, rfl⟩
  · have e : knownB c = true := decide_eq_true (by omega)
    obtain ⟨h0, h1⟩ := h
    rw [e]
    go_enter Tryd.func29, Tryd.ntmps29
    go_wp2
    go_ret
    exact ⟨rfl, rfl⟩
  · have e : knownB c = false := decide_eq_false (by omega)
    obtain ⟨h0, h1⟩ := h
    rw [e]
    have h2 : (c != 99) = true := by simpa using h1
    clear h1
    go_enter Tryd.func29, Tryd.ntmps29
    go_wp2
    go_ret
    exact ⟨rfl, rfl⟩
  · go_enter Tryd.func29, Tryd.ntmps29
    go_wp2
    go_ret
    exact ⟨rfl, rfl⟩
theorem refKnown_any (c : Int) (w : World) : Calls Tryd.prog 30 #[.int .i64 c] w fun e w' => e = .returned (.bool (knownB c)) ∧ w = w' := by
  have hcase : c < 0 ∨ (0 ≤ c ∧ c ≤ 18) ∨ (18 < c ∧ c ≠ 99) ∨ c = 99 := by omega
  rcases hcase with h | h | h | rfl
  · have e : knownB c = false := decide_eq_false (by omega)
    have h2 : (c == 99) = false := by rw [beq_eq_false_iff_ne]; omega
    rw [e]
    go_enter Tryd.func30, Tryd.ntmps30
    go_wp2
    go_ret
    exact ⟨rfl, rfl⟩
  · have e : knownB c = true := decide_eq_true (by omega)
    obtain ⟨h0, h1⟩ := h
    rw [e]
    go_enter Tryd.func30, Tryd.ntmps30
    go_wp2
    go_ret
    exact ⟨rfl, rfl⟩
  · have e : knownB c = false := decide_eq_false (by omega)
    obtain ⟨h0, h1⟩ := h
    have h2 : (c == 99) = false := by rw [beq_eq_false_iff_ne]; omega
    have h3 : decide (c ≤ 18) = false := decide_eq_false (by omega)
    clear h1
    rw [e]
    go_enter Tryd.func30, Tryd.ntmps30
    go_wp2
    go_ret
    exact ⟨rfl, rfl⟩
  · go_enter Tryd.func30, Tryd.ntmps30
    go_wp2
    go_ret
    exact ⟨rfl, rfl⟩
/-- The codes' names, from 1 on. -/
def codeNames : List (List UInt8) := [[102, 111, 114, 109], [115, 104, 111, 114, 116], [108, 111, 110, 103], [114, 97, 110, 103, 101], [107, 105, 110, 100], [116, 119, 105, 99, 101], [102, 117, 108, 108], [98, 97, 100, 32, 111, 112], [98, 97, 100, 32, 98, 97, 116, 99, 104], [115, 116, 97, 108, 101, 32, 98, 97, 116, 99, 104], [116, 111, 111, 32, 109, 97, 110, 121, 32, 114, 101, 97, 100, 101, 114, 115], [110, 111, 32, 119, 97, 116, 99, 104, 101, 114], [116, 111, 111, 32, 109, 97, 110, 121, 32, 119, 97, 116, 99, 104, 101, 114, 115], [111, 118, 101, 114, 102, 108, 111, 119], [115, 99, 114, 105, 112, 116], [110, 111, 110, 101], [102, 114, 101, 101, 100], [98, 111, 117, 110, 100, 115]]
def unknownL : List UInt8 := [117, 110, 107, 110, 111, 119, 110]
/-- A code's name. -/
def nameL (c : Int) : List UInt8 := if c < 1 ∨ 18 < c then unknownL else codeNames.getD (c.toNat - 1) []
theorem nameL_len (c : Int) : (nameL c).length ≤ 17 := by
  unfold nameL
  split
  · decide
  · have : ∀ i, i < 18 → (codeNames.getD i []).length ≤ 17 := by decide
    exact this _ (by omega)
theorem nameL_mid (k : Nat) (h0 : 1 ≤ k) (h1 : k ≤ 18) : (#[.string ⟨#[]⟩, .string ⟨#[102, 111, 114, 109]⟩, .string ⟨#[115, 104, 111, 114, 116]⟩, .string ⟨#[108, 111, 110, 103]⟩, .string ⟨#[114, 97, 110, 103, 101]⟩, .string ⟨#[107, 105, 110, 100]⟩, .string ⟨#[116, 119, 105, 99, 101]⟩, .string ⟨#[102, 117, 108, 108]⟩, .string ⟨#[98, 97, 100, 32, 111, 112]⟩, .string ⟨#[98, 97, 100, 32, 98, 97, 116, 99, 104]⟩, .string ⟨#[115, 116, 97, 108, 101, 32, 98, 97, 116, 99, 104]⟩, .string ⟨#[116, 111, 111, 32, 109, 97, 110, 121, 32, 114, 101, 97, 100, 101, 114, 115]⟩, .string ⟨#[110, 111, 32, 119, 97, 116, 99, 104, 101, 114]⟩, .string ⟨#[116, 111, 111, 32, 109, 97, 110, 121, 32, 119, 97, 116, 99, 104, 101, 114, 115]⟩, .string ⟨#[111, 118, 101, 114, 102, 108, 111, 119]⟩, .string ⟨#[115, 99, 114, 105, 112, 116]⟩, .string ⟨#[110, 111, 110, 101]⟩, .string ⟨#[102, 114, 101, 101, 100]⟩, .string ⟨#[98, 111, 117, 110, 100, 115]⟩] : Array Value)[k]? = some (strL (nameL k)) := by
  have hcase : k = 1 ∨ k = 2 ∨ k = 3 ∨ k = 4 ∨ k = 5 ∨ k = 6 ∨ k = 7 ∨ k = 8 ∨ k = 9 ∨ k = 10 ∨ k = 11 ∨ k = 12 ∨ k = 13 ∨ k = 14 ∨ k = 15 ∨ k = 16 ∨ k = 17 ∨ k = 18 := by omega
  clear h0 h1
  rcases hcase with rfl | rfl | rfl | rfl | rfl | rfl | rfl | rfl | rfl | rfl | rfl | rfl | rfl | rfl | rfl | rfl | rfl | rfl
  all_goals rfl
theorem wpList_build_to {P : Program} {ops : Array Oper} {rest : List Oper} {o : Oper} {a : Act} {w : World} {Q : Exit → Act → World → Prop} (hg : o.guard = none) (t : TypeId) (parts : Array (Nat × Operand)) (ho : o.op = .build t parts) (cells : Array Value)
    (hf : P.built t (parts.map fun (i, x) => (i, a.eval x)).toList = some cells)
    (h : wpList P ops Q rest (a.put o.dst (.agg cells)) w) : wpList P ops Q (o :: rest) a w :=
  wpList_build hg t parts ho (by rw [hf]; rfl) (by rw [hf]; exact h)
theorem setRow_new (w : World) (old cs : Array Value) (t : TypeId) : (w.alloc (.cells old t)).setRow w.heap.size cs = w.alloc (.cells cs t) := by
  unfold World.setRow World.alloc
  congr 1
  apply Array.ext
  · simp
  · intro i h1 h2
    simp only [Array.getElem_modify, Array.getElem_push]
    simp at h1
    by_cases hi : i < w.heap.size
    · have hne : ¬ w.heap.size = i := by omega
      simp [hi, hne]
    · have : i = w.heap.size := by omega
      subst this
      simp
set_option maxRecDepth 100000 in
theorem name_mid (k : Nat) (h0 : 1 ≤ k) (h1 : k ≤ 18) (w : World) : Calls Tryd.prog 54 #[.int .i64 k] w fun e w' => e = .returned (strL (nameL k)) ∧ Below w.heap.size w w' := by
  have hk0 : (0 : Int) ≤ k := by omega
  have hk1 : (k : Int) < 19 := by omega
  have d0 : decide ((k : Int) < 0) = false := decide_eq_false (by omega)
  have d1 : decide ((19 : Int) ≤ k) = false := decide_eq_false (by omega)
  have hz : (Tryd.prog.info? 119).map (·.size) = some 19 := by kernel_rfl
  have hc := ((Blk.new w 119 (#[.string ⟨#[]⟩, .string ⟨#[102, 111, 114, 109]⟩, .string ⟨#[115, 104, 111, 114, 116]⟩, .string ⟨#[108, 111, 110, 103]⟩, .string ⟨#[114, 97, 110, 103, 101]⟩, .string ⟨#[107, 105, 110, 100]⟩, .string ⟨#[116, 119, 105, 99, 101]⟩, .string ⟨#[102, 117, 108, 108]⟩, .string ⟨#[98, 97, 100, 32, 111, 112]⟩, .string ⟨#[98, 97, 100, 32, 98, 97, 116, 99, 104]⟩, .string ⟨#[115, 116, 97, 108, 101, 32, 98, 97, 116, 99, 104]⟩, .string ⟨#[116, 111, 111, 32, 109, 97, 110, 121, 32, 114, 101, 97, 100, 101, 114, 115]⟩, .string ⟨#[110, 111, 32, 119, 97, 116, 99, 104, 101, 114]⟩, .string ⟨#[116, 111, 111, 32, 109, 97, 110, 121, 32, 119, 97, 116, 99, 104, 101, 114, 115]⟩, .string ⟨#[111, 118, 101, 114, 102, 108, 111, 119]⟩, .string ⟨#[115, 99, 114, 105, 112, 116]⟩, .string ⟨#[110, 111, 110, 101]⟩, .string ⟨#[102, 114, 101, 101, 100]⟩, .string ⟨#[98, 111, 117, 110, 100, 115]⟩] : Array Value)).cell k).trans (nameL_mid k h0 h1)
  generalize strL (nameL k) = r at *
  replace hz := Lib.hid hz
  go_enter Tryd.func54, Tryd.ntmps54
  go_wp2_with (refine wpList_build_to rfl 119 _ rfl (#[.string ⟨#[]⟩, .string ⟨#[102, 111, 114, 109]⟩, .string ⟨#[115, 104, 111, 114, 116]⟩, .string ⟨#[108, 111, 110, 103]⟩, .string ⟨#[114, 97, 110, 103, 101]⟩, .string ⟨#[107, 105, 110, 100]⟩, .string ⟨#[116, 119, 105, 99, 101]⟩, .string ⟨#[102, 117, 108, 108]⟩, .string ⟨#[98, 97, 100, 32, 111, 112]⟩, .string ⟨#[98, 97, 100, 32, 98, 97, 116, 99, 104]⟩, .string ⟨#[115, 116, 97, 108, 101, 32, 98, 97, 116, 99, 104]⟩, .string ⟨#[116, 111, 111, 32, 109, 97, 110, 121, 32, 114, 101, 97, 100, 101, 114, 115]⟩, .string ⟨#[110, 111, 32, 119, 97, 116, 99, 104, 101, 114]⟩, .string ⟨#[116, 111, 111, 32, 109, 97, 110, 121, 32, 119, 97, 116, 99, 104, 101, 114, 115]⟩, .string ⟨#[111, 118, 101, 114, 102, 108, 111, 119]⟩, .string ⟨#[115, 99, 114, 105, 112, 116]⟩, .string ⟨#[110, 111, 110, 101]⟩, .string ⟨#[102, 114, 101, 101, 100]⟩, .string ⟨#[98, 111, 117, 110, 100, 115]⟩] : Array Value) (by kernel_rfl) ?_; refine Great.wpList_allocTo rfl (some 3) rfl (.pointer (some ⟨w.heap.size, 0, none⟩)) (.cells (#[.string ⟨#[]⟩, .string ⟨#[]⟩, .string ⟨#[]⟩, .string ⟨#[]⟩, .string ⟨#[]⟩, .string ⟨#[]⟩, .string ⟨#[]⟩, .string ⟨#[]⟩, .string ⟨#[]⟩, .string ⟨#[]⟩, .string ⟨#[]⟩, .string ⟨#[]⟩, .string ⟨#[]⟩, .string ⟨#[]⟩, .string ⟨#[]⟩, .string ⟨#[]⟩, .string ⟨#[]⟩, .string ⟨#[]⟩, .string ⟨#[]⟩] : Array Value) 119) (by kernel_rfl) ?_; refine wpList_store_row rfl 119 (.tmp 3) (.tmp 4) rfl w.heap.size (#[.string ⟨#[]⟩, .string ⟨#[102, 111, 114, 109]⟩, .string ⟨#[115, 104, 111, 114, 116]⟩, .string ⟨#[108, 111, 110, 103]⟩, .string ⟨#[114, 97, 110, 103, 101]⟩, .string ⟨#[107, 105, 110, 100]⟩, .string ⟨#[116, 119, 105, 99, 101]⟩, .string ⟨#[102, 117, 108, 108]⟩, .string ⟨#[98, 97, 100, 32, 111, 112]⟩, .string ⟨#[98, 97, 100, 32, 98, 97, 116, 99, 104]⟩, .string ⟨#[115, 116, 97, 108, 101, 32, 98, 97, 116, 99, 104]⟩, .string ⟨#[116, 111, 111, 32, 109, 97, 110, 121, 32, 114, 101, 97, 100, 101, 114, 115]⟩, .string ⟨#[110, 111, 32, 119, 97, 116, 99, 104, 101, 114]⟩, .string ⟨#[116, 111, 111, 32, 109, 97, 110, 121, 32, 119, 97, 116, 99, 104, 101, 114, 115]⟩, .string ⟨#[111, 118, 101, 114, 102, 108, 111, 119]⟩, .string ⟨#[115, 99, 114, 105, 112, 116]⟩, .string ⟨#[110, 111, 110, 101]⟩, .string ⟨#[102, 114, 101, 101, 100]⟩, .string ⟨#[98, 111, 117, 110, 100, 115]⟩] : Array Value) rfl rfl 119 (#[.string ⟨#[]⟩, .string ⟨#[]⟩, .string ⟨#[]⟩, .string ⟨#[]⟩, .string ⟨#[]⟩, .string ⟨#[]⟩, .string ⟨#[]⟩, .string ⟨#[]⟩, .string ⟨#[]⟩, .string ⟨#[]⟩, .string ⟨#[]⟩, .string ⟨#[]⟩, .string ⟨#[]⟩, .string ⟨#[]⟩, .string ⟨#[]⟩, .string ⟨#[]⟩, .string ⟨#[]⟩, .string ⟨#[]⟩, .string ⟨#[]⟩] : Array Value) (heap_alloc_new w _) hz.out rfl (by kernel_rfl) ?_; rw [setRow_new]; generalize hW : w.alloc (.cells (#[.string ⟨#[]⟩, .string ⟨#[102, 111, 114, 109]⟩, .string ⟨#[115, 104, 111, 114, 116]⟩, .string ⟨#[108, 111, 110, 103]⟩, .string ⟨#[114, 97, 110, 103, 101]⟩, .string ⟨#[107, 105, 110, 100]⟩, .string ⟨#[116, 119, 105, 99, 101]⟩, .string ⟨#[102, 117, 108, 108]⟩, .string ⟨#[98, 97, 100, 32, 111, 112]⟩, .string ⟨#[98, 97, 100, 32, 98, 97, 116, 99, 104]⟩, .string ⟨#[115, 116, 97, 108, 101, 32, 98, 97, 116, 99, 104]⟩, .string ⟨#[116, 111, 111, 32, 109, 97, 110, 121, 32, 114, 101, 97, 100, 101, 114, 115]⟩, .string ⟨#[110, 111, 32, 119, 97, 116, 99, 104, 101, 114]⟩, .string ⟨#[116, 111, 111, 32, 109, 97, 110, 121, 32, 119, 97, 116, 99, 104, 101, 114, 115]⟩, .string ⟨#[111, 118, 101, 114, 102, 108, 111, 119]⟩, .string ⟨#[115, 99, 114, 105, 112, 116]⟩, .string ⟨#[110, 111, 110, 101]⟩, .string ⟨#[102, 114, 101, 101, 100]⟩, .string ⟨#[98, 111, 117, 110, 100, 115]⟩] : Array Value) 119) = W at hc ⊢; replace hW := Lib.hid hW)
  go_ret
  refine ⟨rfl, ?_⟩
  rw [← hW.out]
  exact (Below.refl _ _).alloc (Nat.le_refl _) _
set_option maxRecDepth 100000 in
theorem name_99 (w : World) : Calls Tryd.prog 54 #[.int .i64 99] w fun e w' => e = .returned (strL (nameL 99)) ∧ Below w.heap.size w w' := by
  have hz : (Tryd.prog.info? 119).map (·.size) = some 19 := by kernel_rfl
  have hc := ((Blk.new w 119 (#[.string ⟨#[]⟩, .string ⟨#[102, 111, 114, 109]⟩, .string ⟨#[115, 104, 111, 114, 116]⟩, .string ⟨#[108, 111, 110, 103]⟩, .string ⟨#[114, 97, 110, 103, 101]⟩, .string ⟨#[107, 105, 110, 100]⟩, .string ⟨#[116, 119, 105, 99, 101]⟩, .string ⟨#[102, 117, 108, 108]⟩, .string ⟨#[98, 97, 100, 32, 111, 112]⟩, .string ⟨#[98, 97, 100, 32, 98, 97, 116, 99, 104]⟩, .string ⟨#[115, 116, 97, 108, 101, 32, 98, 97, 116, 99, 104]⟩, .string ⟨#[116, 111, 111, 32, 109, 97, 110, 121, 32, 114, 101, 97, 100, 101, 114, 115]⟩, .string ⟨#[110, 111, 32, 119, 97, 116, 99, 104, 101, 114]⟩, .string ⟨#[116, 111, 111, 32, 109, 97, 110, 121, 32, 119, 97, 116, 99, 104, 101, 114, 115]⟩, .string ⟨#[111, 118, 101, 114, 102, 108, 111, 119]⟩, .string ⟨#[115, 99, 114, 105, 112, 116]⟩, .string ⟨#[110, 111, 110, 101]⟩, .string ⟨#[102, 114, 101, 101, 100]⟩, .string ⟨#[98, 111, 117, 110, 100, 115]⟩] : Array Value)).cell 0)
  replace hz := Lib.hid hz
  have hr : strL (nameL 99) = .string ⟨#[117, 110, 107, 110, 111, 119, 110]⟩ := rfl
  rw [hr]
  clear hr
  go_enter Tryd.func54, Tryd.ntmps54
  go_wp2_with (refine wpList_build_to rfl 119 _ rfl (#[.string ⟨#[]⟩, .string ⟨#[102, 111, 114, 109]⟩, .string ⟨#[115, 104, 111, 114, 116]⟩, .string ⟨#[108, 111, 110, 103]⟩, .string ⟨#[114, 97, 110, 103, 101]⟩, .string ⟨#[107, 105, 110, 100]⟩, .string ⟨#[116, 119, 105, 99, 101]⟩, .string ⟨#[102, 117, 108, 108]⟩, .string ⟨#[98, 97, 100, 32, 111, 112]⟩, .string ⟨#[98, 97, 100, 32, 98, 97, 116, 99, 104]⟩, .string ⟨#[115, 116, 97, 108, 101, 32, 98, 97, 116, 99, 104]⟩, .string ⟨#[116, 111, 111, 32, 109, 97, 110, 121, 32, 114, 101, 97, 100, 101, 114, 115]⟩, .string ⟨#[110, 111, 32, 119, 97, 116, 99, 104, 101, 114]⟩, .string ⟨#[116, 111, 111, 32, 109, 97, 110, 121, 32, 119, 97, 116, 99, 104, 101, 114, 115]⟩, .string ⟨#[111, 118, 101, 114, 102, 108, 111, 119]⟩, .string ⟨#[115, 99, 114, 105, 112, 116]⟩, .string ⟨#[110, 111, 110, 101]⟩, .string ⟨#[102, 114, 101, 101, 100]⟩, .string ⟨#[98, 111, 117, 110, 100, 115]⟩] : Array Value) (by kernel_rfl) ?_; refine Great.wpList_allocTo rfl (some 3) rfl (.pointer (some ⟨w.heap.size, 0, none⟩)) (.cells (#[.string ⟨#[]⟩, .string ⟨#[]⟩, .string ⟨#[]⟩, .string ⟨#[]⟩, .string ⟨#[]⟩, .string ⟨#[]⟩, .string ⟨#[]⟩, .string ⟨#[]⟩, .string ⟨#[]⟩, .string ⟨#[]⟩, .string ⟨#[]⟩, .string ⟨#[]⟩, .string ⟨#[]⟩, .string ⟨#[]⟩, .string ⟨#[]⟩, .string ⟨#[]⟩, .string ⟨#[]⟩, .string ⟨#[]⟩, .string ⟨#[]⟩] : Array Value) 119) (by kernel_rfl) ?_; refine wpList_store_row rfl 119 (.tmp 3) (.tmp 4) rfl w.heap.size (#[.string ⟨#[]⟩, .string ⟨#[102, 111, 114, 109]⟩, .string ⟨#[115, 104, 111, 114, 116]⟩, .string ⟨#[108, 111, 110, 103]⟩, .string ⟨#[114, 97, 110, 103, 101]⟩, .string ⟨#[107, 105, 110, 100]⟩, .string ⟨#[116, 119, 105, 99, 101]⟩, .string ⟨#[102, 117, 108, 108]⟩, .string ⟨#[98, 97, 100, 32, 111, 112]⟩, .string ⟨#[98, 97, 100, 32, 98, 97, 116, 99, 104]⟩, .string ⟨#[115, 116, 97, 108, 101, 32, 98, 97, 116, 99, 104]⟩, .string ⟨#[116, 111, 111, 32, 109, 97, 110, 121, 32, 114, 101, 97, 100, 101, 114, 115]⟩, .string ⟨#[110, 111, 32, 119, 97, 116, 99, 104, 101, 114]⟩, .string ⟨#[116, 111, 111, 32, 109, 97, 110, 121, 32, 119, 97, 116, 99, 104, 101, 114, 115]⟩, .string ⟨#[111, 118, 101, 114, 102, 108, 111, 119]⟩, .string ⟨#[115, 99, 114, 105, 112, 116]⟩, .string ⟨#[110, 111, 110, 101]⟩, .string ⟨#[102, 114, 101, 101, 100]⟩, .string ⟨#[98, 111, 117, 110, 100, 115]⟩] : Array Value) rfl rfl 119 (#[.string ⟨#[]⟩, .string ⟨#[]⟩, .string ⟨#[]⟩, .string ⟨#[]⟩, .string ⟨#[]⟩, .string ⟨#[]⟩, .string ⟨#[]⟩, .string ⟨#[]⟩, .string ⟨#[]⟩, .string ⟨#[]⟩, .string ⟨#[]⟩, .string ⟨#[]⟩, .string ⟨#[]⟩, .string ⟨#[]⟩, .string ⟨#[]⟩, .string ⟨#[]⟩, .string ⟨#[]⟩, .string ⟨#[]⟩, .string ⟨#[]⟩] : Array Value) (heap_alloc_new w _) hz.out rfl (by kernel_rfl) ?_; rw [setRow_new]; generalize hW : w.alloc (.cells (#[.string ⟨#[]⟩, .string ⟨#[102, 111, 114, 109]⟩, .string ⟨#[115, 104, 111, 114, 116]⟩, .string ⟨#[108, 111, 110, 103]⟩, .string ⟨#[114, 97, 110, 103, 101]⟩, .string ⟨#[107, 105, 110, 100]⟩, .string ⟨#[116, 119, 105, 99, 101]⟩, .string ⟨#[102, 117, 108, 108]⟩, .string ⟨#[98, 97, 100, 32, 111, 112]⟩, .string ⟨#[98, 97, 100, 32, 98, 97, 116, 99, 104]⟩, .string ⟨#[115, 116, 97, 108, 101, 32, 98, 97, 116, 99, 104]⟩, .string ⟨#[116, 111, 111, 32, 109, 97, 110, 121, 32, 114, 101, 97, 100, 101, 114, 115]⟩, .string ⟨#[110, 111, 32, 119, 97, 116, 99, 104, 101, 114]⟩, .string ⟨#[116, 111, 111, 32, 109, 97, 110, 121, 32, 119, 97, 116, 99, 104, 101, 114, 115]⟩, .string ⟨#[111, 118, 101, 114, 102, 108, 111, 119]⟩, .string ⟨#[115, 99, 114, 105, 112, 116]⟩, .string ⟨#[110, 111, 110, 101]⟩, .string ⟨#[102, 114, 101, 101, 100]⟩, .string ⟨#[98, 111, 117, 110, 100, 115]⟩] : Array Value) 119) = W at hc ⊢; replace hW := Lib.hid hW)
  go_ret
  refine ⟨rfl, ?_⟩
  rw [← hW.out]
  exact (Below.refl _ _).alloc (Nat.le_refl _) _
theorem name_any (c : Int) (hc : (1 ≤ c ∧ c ≤ 18) ∨ c = 99) (w : World) : Calls Tryd.prog 54 #[.int .i64 c] w fun e w' => e = .returned (strL (nameL c)) ∧ Below w.heap.size w w' := by
  rcases hc with h | rfl
  · obtain ⟨k, rfl⟩ : ∃ k : Nat, c = k := ⟨c.toNat, by omega⟩
    exact name_mid k (by omega) (by omega) w
  · exact name_99 w
set_option maxRecDepth 100000 in
theorem refName_mid (k : Nat) (h0 : 1 ≤ k) (h1 : k ≤ 18) (w : World) : Calls Tryd.prog 56 #[.int .i64 k] w fun e w' => e = .returned (strL (nameL k)) ∧ Below w.heap.size w w' := by
  have hk0 : (0 : Int) ≤ k := by omega
  have hk1 : (k : Int) < 19 := by omega
  have d0 : ((k : Int) == 99) = false := by rw [beq_eq_false_iff_ne]; omega
  have hb : knownB k = true := decide_eq_true (by omega)
  have K := fun W => refKnown_any k W
  rw [hb] at K
  replace K := Lib.hid K
  clear hb
  have hc := ((Blk.new w 9 (#[.string ⟨#[]⟩, .string ⟨#[102, 111, 114, 109]⟩, .string ⟨#[115, 104, 111, 114, 116]⟩, .string ⟨#[108, 111, 110, 103]⟩, .string ⟨#[114, 97, 110, 103, 101]⟩, .string ⟨#[107, 105, 110, 100]⟩, .string ⟨#[116, 119, 105, 99, 101]⟩, .string ⟨#[102, 117, 108, 108]⟩, .string ⟨#[98, 97, 100, 32, 111, 112]⟩, .string ⟨#[98, 97, 100, 32, 98, 97, 116, 99, 104]⟩, .string ⟨#[115, 116, 97, 108, 101, 32, 98, 97, 116, 99, 104]⟩, .string ⟨#[116, 111, 111, 32, 109, 97, 110, 121, 32, 114, 101, 97, 100, 101, 114, 115]⟩, .string ⟨#[110, 111, 32, 119, 97, 116, 99, 104, 101, 114]⟩, .string ⟨#[116, 111, 111, 32, 109, 97, 110, 121, 32, 119, 97, 116, 99, 104, 101, 114, 115]⟩, .string ⟨#[111, 118, 101, 114, 102, 108, 111, 119]⟩, .string ⟨#[115, 99, 114, 105, 112, 116]⟩, .string ⟨#[110, 111, 110, 101]⟩, .string ⟨#[102, 114, 101, 101, 100]⟩, .string ⟨#[98, 111, 117, 110, 100, 115]⟩] : Array Value)).cell k).trans (nameL_mid k h0 h1)
  generalize strL (nameL k) = r at *
  go_enter Tryd.func56, Tryd.ntmps56
  go_wp2_with (refine Great.wpList_buildSliceTo rfl 64 9 19 _ rfl w.heap.size rfl (some 4) rfl Tryd.underlying64 (#[.string ⟨#[]⟩, .string ⟨#[102, 111, 114, 109]⟩, .string ⟨#[115, 104, 111, 114, 116]⟩, .string ⟨#[108, 111, 110, 103]⟩, .string ⟨#[114, 97, 110, 103, 101]⟩, .string ⟨#[107, 105, 110, 100]⟩, .string ⟨#[116, 119, 105, 99, 101]⟩, .string ⟨#[102, 117, 108, 108]⟩, .string ⟨#[98, 97, 100, 32, 111, 112]⟩, .string ⟨#[98, 97, 100, 32, 98, 97, 116, 99, 104]⟩, .string ⟨#[115, 116, 97, 108, 101, 32, 98, 97, 116, 99, 104]⟩, .string ⟨#[116, 111, 111, 32, 109, 97, 110, 121, 32, 114, 101, 97, 100, 101, 114, 115]⟩, .string ⟨#[110, 111, 32, 119, 97, 116, 99, 104, 101, 114]⟩, .string ⟨#[116, 111, 111, 32, 109, 97, 110, 121, 32, 119, 97, 116, 99, 104, 101, 114, 115]⟩, .string ⟨#[111, 118, 101, 114, 102, 108, 111, 119]⟩, .string ⟨#[115, 99, 114, 105, 112, 116]⟩, .string ⟨#[110, 111, 110, 101]⟩, .string ⟨#[102, 114, 101, 101, 100]⟩, .string ⟨#[98, 111, 117, 110, 100, 115]⟩] : Array Value) (by kernel_rfl) ?_; generalize hW : w.alloc (.cells (#[.string ⟨#[]⟩, .string ⟨#[102, 111, 114, 109]⟩, .string ⟨#[115, 104, 111, 114, 116]⟩, .string ⟨#[108, 111, 110, 103]⟩, .string ⟨#[114, 97, 110, 103, 101]⟩, .string ⟨#[107, 105, 110, 100]⟩, .string ⟨#[116, 119, 105, 99, 101]⟩, .string ⟨#[102, 117, 108, 108]⟩, .string ⟨#[98, 97, 100, 32, 111, 112]⟩, .string ⟨#[98, 97, 100, 32, 98, 97, 116, 99, 104]⟩, .string ⟨#[115, 116, 97, 108, 101, 32, 98, 97, 116, 99, 104]⟩, .string ⟨#[116, 111, 111, 32, 109, 97, 110, 121, 32, 114, 101, 97, 100, 101, 114, 115]⟩, .string ⟨#[110, 111, 32, 119, 97, 116, 99, 104, 101, 114]⟩, .string ⟨#[116, 111, 111, 32, 109, 97, 110, 121, 32, 119, 97, 116, 99, 104, 101, 114, 115]⟩, .string ⟨#[111, 118, 101, 114, 102, 108, 111, 119]⟩, .string ⟨#[115, 99, 114, 105, 112, 116]⟩, .string ⟨#[110, 111, 110, 101]⟩, .string ⟨#[102, 114, 101, 101, 100]⟩, .string ⟨#[98, 111, 117, 110, 100, 115]⟩] : Array Value) 9) = W at hc ⊢; replace hW := Lib.hid hW)
  refine (K.out _).mono ?_; rintro e w1 ⟨rfl, rfl⟩
  go_wp2_with fail
  go_ret
  refine ⟨rfl, ?_⟩
  rw [← hW.out]
  exact (Below.refl _ _).alloc (Nat.le_refl _) _
set_option maxRecDepth 100000 in
theorem refName_99 (w : World) : Calls Tryd.prog 56 #[.int .i64 99] w fun e w' => e = .returned (strL (nameL 99)) ∧ Below w.heap.size w w' := by
  have hc := ((Blk.new w 9 (#[.string ⟨#[]⟩, .string ⟨#[102, 111, 114, 109]⟩, .string ⟨#[115, 104, 111, 114, 116]⟩, .string ⟨#[108, 111, 110, 103]⟩, .string ⟨#[114, 97, 110, 103, 101]⟩, .string ⟨#[107, 105, 110, 100]⟩, .string ⟨#[116, 119, 105, 99, 101]⟩, .string ⟨#[102, 117, 108, 108]⟩, .string ⟨#[98, 97, 100, 32, 111, 112]⟩, .string ⟨#[98, 97, 100, 32, 98, 97, 116, 99, 104]⟩, .string ⟨#[115, 116, 97, 108, 101, 32, 98, 97, 116, 99, 104]⟩, .string ⟨#[116, 111, 111, 32, 109, 97, 110, 121, 32, 114, 101, 97, 100, 101, 114, 115]⟩, .string ⟨#[110, 111, 32, 119, 97, 116, 99, 104, 101, 114]⟩, .string ⟨#[116, 111, 111, 32, 109, 97, 110, 121, 32, 119, 97, 116, 99, 104, 101, 114, 115]⟩, .string ⟨#[111, 118, 101, 114, 102, 108, 111, 119]⟩, .string ⟨#[115, 99, 114, 105, 112, 116]⟩, .string ⟨#[110, 111, 110, 101]⟩, .string ⟨#[102, 114, 101, 101, 100]⟩, .string ⟨#[98, 111, 117, 110, 100, 115]⟩] : Array Value)).cell 0)
  have hr : strL (nameL 99) = .string ⟨#[117, 110, 107, 110, 111, 119, 110]⟩ := rfl
  rw [hr]
  clear hr
  go_enter Tryd.func56, Tryd.ntmps56
  go_wp2_with (refine Great.wpList_buildSliceTo rfl 64 9 19 _ rfl w.heap.size rfl (some 4) rfl Tryd.underlying64 (#[.string ⟨#[]⟩, .string ⟨#[102, 111, 114, 109]⟩, .string ⟨#[115, 104, 111, 114, 116]⟩, .string ⟨#[108, 111, 110, 103]⟩, .string ⟨#[114, 97, 110, 103, 101]⟩, .string ⟨#[107, 105, 110, 100]⟩, .string ⟨#[116, 119, 105, 99, 101]⟩, .string ⟨#[102, 117, 108, 108]⟩, .string ⟨#[98, 97, 100, 32, 111, 112]⟩, .string ⟨#[98, 97, 100, 32, 98, 97, 116, 99, 104]⟩, .string ⟨#[115, 116, 97, 108, 101, 32, 98, 97, 116, 99, 104]⟩, .string ⟨#[116, 111, 111, 32, 109, 97, 110, 121, 32, 114, 101, 97, 100, 101, 114, 115]⟩, .string ⟨#[110, 111, 32, 119, 97, 116, 99, 104, 101, 114]⟩, .string ⟨#[116, 111, 111, 32, 109, 97, 110, 121, 32, 119, 97, 116, 99, 104, 101, 114, 115]⟩, .string ⟨#[111, 118, 101, 114, 102, 108, 111, 119]⟩, .string ⟨#[115, 99, 114, 105, 112, 116]⟩, .string ⟨#[110, 111, 110, 101]⟩, .string ⟨#[102, 114, 101, 101, 100]⟩, .string ⟨#[98, 111, 117, 110, 100, 115]⟩] : Array Value) (by kernel_rfl) ?_; generalize hW : w.alloc (.cells (#[.string ⟨#[]⟩, .string ⟨#[102, 111, 114, 109]⟩, .string ⟨#[115, 104, 111, 114, 116]⟩, .string ⟨#[108, 111, 110, 103]⟩, .string ⟨#[114, 97, 110, 103, 101]⟩, .string ⟨#[107, 105, 110, 100]⟩, .string ⟨#[116, 119, 105, 99, 101]⟩, .string ⟨#[102, 117, 108, 108]⟩, .string ⟨#[98, 97, 100, 32, 111, 112]⟩, .string ⟨#[98, 97, 100, 32, 98, 97, 116, 99, 104]⟩, .string ⟨#[115, 116, 97, 108, 101, 32, 98, 97, 116, 99, 104]⟩, .string ⟨#[116, 111, 111, 32, 109, 97, 110, 121, 32, 114, 101, 97, 100, 101, 114, 115]⟩, .string ⟨#[110, 111, 32, 119, 97, 116, 99, 104, 101, 114]⟩, .string ⟨#[116, 111, 111, 32, 109, 97, 110, 121, 32, 119, 97, 116, 99, 104, 101, 114, 115]⟩, .string ⟨#[111, 118, 101, 114, 102, 108, 111, 119]⟩, .string ⟨#[115, 99, 114, 105, 112, 116]⟩, .string ⟨#[110, 111, 110, 101]⟩, .string ⟨#[102, 114, 101, 101, 100]⟩, .string ⟨#[98, 111, 117, 110, 100, 115]⟩] : Array Value) 9) = W at hc ⊢; replace hW := Lib.hid hW)
  go_ret
  refine ⟨rfl, ?_⟩
  rw [← hW.out]
  exact (Below.refl _ _).alloc (Nat.le_refl _) _
theorem refName_any (c : Int) (hc : (1 ≤ c ∧ c ≤ 18) ∨ c = 99) (w : World) : Calls Tryd.prog 56 #[.int .i64 c] w fun e w' => e = .returned (strL (nameL c)) ∧ Below w.heap.size w w' := by
  rcases hc with h | rfl
  · obtain ⟨k, rfl⟩ : ∃ k : Nat, c = k := ⟨c.toNat, by omega⟩
    exact refName_mid k (by omega) (by omega) w
  · exact refName_99 w
/-- A place's part of a text. -/
def plc (p : Int) : List UInt8 := [97, 116, 32] ++ Lib.itoa p ++ [58, 32]
def plcs (ps : List Int) : List UInt8 := (ps.map plc).flatten
/-- The text of a code's error at places. -/
def textL (c : Int) (ps : List Int) : List UInt8 := plcs ps ++ nameL c
theorem plcs_snoc (ps : List Int) (p : Int) : plcs (ps ++ [p]) = plcs ps ++ plc p := by simp [plcs]
end Go.Proofs.YtgnjjlbdiagklaaDoor
