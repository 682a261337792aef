/-
  Names (layer 12): a name's text. Where the table of powers lies.
-/
import Derived.Test.YtpkkjoiglemlgaaGreatDoorIdR
import Derived.Test.YtpkkjoiglemlgaaGreatDoorFmt
import Derived.Deep.RegionWith
import Derived.Deep.RegionHeld3
namespace Go.Proofs.YtpkkjoiglemlgaaGreatDoor
set_option linter.unusedVariables false
open Go.ChangeShapes Go.WideShapes Go.ChangeAt Go.RowKit Go.Extern.Stop Go.Stop Go.Extern

def iText (p : Int × Int) : List UInt8 := (Lib.itoa p.1 ++ [46]) ++ Lib.itoa p.2
theorem itoa_len {n : Int} (h0 : -9223372036854775808 ≤ n) (h1 : n ≤ 9223372036854775807) : (Lib.itoa n).length ≤ 21 := Lib.itoa_length_le n h0 h1
theorem digitsPrintI_any {w : World} (htab : PTb w) (n : Int) (h0 : -9223372036854775808 ≤ n) (h1 : n ≤ 9223372036854775807) :
    Calls Tryz.prog 43 #[.int .i64 n] w fun e w' => e = .returned (strL (Lib.itoa n)) ∧ Below w.heap.size w w' := by
  have hF := fmtInt_any htab n h0 h1
  replace hF := Lib.hid hF
  clear htab
  go_enter Tryz.func43, Tryz.ntmps43
  go_wp2_with fail
  refine (hF.out).mono ?_; rintro e w' ⟨rfl, hb⟩
  go_wp2_with fail
  go_ret
  exact ⟨rfl, hb⟩
set_option maxHeartbeats 1000000 in
set_option maxRecDepth 100000 in
theorem idPrint_any {w : World} (htab : PTb w) (x y : Int) (hx0 : -9223372036854775808 ≤ x) (hx1 : x ≤ 9223372036854775807) (hy0 : -9223372036854775808 ≤ y) (hy1 : y ≤ 9223372036854775807) :
    Calls Tryz.prog 15 #[.agg #[.int .i64 x, .int .i64 y]] w fun e w' => e = .returned (strL (iText (x, y))) ∧ Below w.heap.size w w' := by
  have hl1 := itoa_len hx0 hx1
  have hl2 := itoa_len hy0 hy1
  have B1 := Blk.new w 23 #[.int .i64 x, .int .i64 y]
  have hW1 : Below w.heap.size w (w.alloc (.cells #[.int .i64 x, .int .i64 y] 23)) := (Below.refl _ _).alloc (Nat.le_refl _) _
  have hF1 := fun W (h : Below w.heap.size w W) => digitsPrintI_any (htab.below h) x hx0 hx1
  have hF2 := fun W (h : Below w.heap.size w W) => digitsPrintI_any (htab.below h) y hy0 hy1
  unfold iText
  simp only
  have ha1 : ∀ W, (Op.stringOp .add (bs (Lib.itoa x)) ⟨#[46]⟩).run Tryz.prog W = .ok (.string (bs (Lib.itoa x ++ [46]))) W := fun W => add_str W (Lib.itoa x) [46] (by simp; omega)
  have ha2 := fun W => add_str W (Lib.itoa x ++ [46]) (Lib.itoa y) (by simp; omega)
  rw [show strL (Lib.itoa x) = .string (bs (Lib.itoa x)) from rfl] at hF1
  rw [show strL (Lib.itoa y) = .string (bs (Lib.itoa y)) from rfl] at hF2
  generalize (Lib.itoa x ++ [46]) ++ Lib.itoa y = T2 at *
  generalize Lib.itoa x ++ [46] = T1 at *
  generalize Lib.itoa x = t1 at *
  generalize Lib.itoa y = t2 at *
  replace hF1 := Lib.hid hF1
  replace hF2 := Lib.hid hF2
  clear htab hl1 hl2 hx0 hx1 hy0 hy1
  have hsz : (w.alloc (.cells #[.int .i64 x, .int .i64 y] 23)).heap.size = w.heap.size + 1 := by simp
  have x0 := B1.cell 0
  have x1 := B1.cell 1
  have hK : ∀ w1 w2, Below w.heap.size w w1 → Blk w1 w.heap.size 23 #[.int .i64 x, .int .i64 y] → Below w1.heap.size w1 w2 → (w2.cell? ⟨w.heap.size, 0, none⟩ = some (.int .i64 x) ∧ w2.cell? ⟨w.heap.size, 1, none⟩ = some (.int .i64 y)) ∧ Blk w2 w.heap.size 23 #[.int .i64 x, .int .i64 y] ∧ Below w.heap.size w w2 := fun w1 w2 h1 hB h2 => by
    have hB2 := hB.below h2 hB.lt
    exact ⟨⟨hB2.cell 0, hB2.cell 1⟩, hB2, Below.next_ h1 h2⟩
  replace hK := Lib.hid hK
  replace B1 := Lib.hid B1
  replace hW1 := Lib.hid hW1
  go_enter Tryz.func15, Tryz.ntmps15
  go_wp2_with fail
  go_region_held3 (fun W => W.cell? ⟨w.heap.size, 0, none⟩ = some (.int .i64 x) ∧ W.cell? ⟨w.heap.size, 1, none⟩ = some (.int .i64 y))
    (first | assumption | go_keep)
    (first | (go_at_call 43; first | (refine (hF1.out _ (by first | exact hW1.out.drew | exact hW1.out)).mono ?_; rintro e w5 ⟨rfl, hb5⟩; obtain ⟨hs5, B5, hb05⟩ := hK.out _ _ (by first | exact hW1.out.drew | exact hW1.out) (by first | exact B1.out.drew | exact B1.out) hb5; clear hb5; replace B5 := Lib.hid B5) | (refine (hF2.out _ (by first | exact hb05.drew | exact hb05)).mono ?_; rintro e w6 ⟨rfl, hb6⟩; obtain ⟨hs6, B6, hb06⟩ := hK.out _ _ hb05 B5.out hb6; clear hb6)))
  all_goals
    go_wp2_with fail
    go_ret
    exact ⟨rfl, hb06⟩
end Go.Proofs.YtpkkjoiglemlgaaGreatDoor
