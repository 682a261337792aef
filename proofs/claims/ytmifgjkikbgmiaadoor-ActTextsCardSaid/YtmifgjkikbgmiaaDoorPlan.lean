/-
  Configs, and where everything stands in the control block (layer 21). No condition.
-/
import Derived.Test.YtmifgjkikbgmiaaDoorRows
import Derived.Test.YtmifgjkikbgmiaaDoorFr
import Derived.Deep.RegionWith
import Derived.BigQuiet
namespace Go.Proofs.YtmifgjkikbgmiaaDoor
set_option linter.unusedVariables false
open Go.ChangeShapes Go.WideShapes Go.ChangeAt Go.RowKit
open Go.ChangeMaps (setBlock)

structure PCfg where
  cap : Int
  pins : Int
  shelves : Int
  queue : Int
  watchers : Int
  seed : Int
def PCfg.val (c : PCfg) : Value := .agg #[.int .i64 c.cap, .int .i64 c.pins, .int .i64 c.shelves, .int .i64 c.queue, .int .i64 c.watchers, .int .u64 c.seed]
structure PCfg.Right (c : PCfg) : Prop where
  cap : 1 ≤ c.cap ∧ c.cap ≤ 32
  pins : 1 ≤ c.pins ∧ c.pins ≤ 8
  shelves : 1 ≤ c.shelves ∧ c.shelves ≤ 64
  queue : 0 ≤ c.queue ∧ c.queue ≤ 64
  watchers : 0 ≤ c.watchers ∧ c.watchers ≤ 8
def PCfg.right (c : PCfg) : Bool := decide (1 ≤ c.cap ∧ c.cap ≤ 32) && decide (1 ≤ c.pins ∧ c.pins ≤ 8) && decide (1 ≤ c.shelves ∧ c.shelves ≤ 64) && decide (0 ≤ c.queue ∧ c.queue ≤ 64) && decide (0 ≤ c.watchers ∧ c.watchers ≤ 8)
theorem PCfg.right_iff (c : PCfg) : c.right = true ↔ c.Right := by
  unfold PCfg.right
  simp only [Bool.and_eq_true, decide_eq_true_eq]
  constructor
  · rintro ⟨⟨⟨⟨h1, h2⟩, h3⟩, h4⟩, h5⟩
    exact ⟨h1, h2, h3, h4, h5⟩
  · rintro ⟨h1, h2, h3, h4, h5⟩
    exact ⟨⟨⟨⟨h1, h2⟩, h3⟩, h4⟩, h5⟩
end Go.Proofs.YtmifgjkikbgmiaaDoor
