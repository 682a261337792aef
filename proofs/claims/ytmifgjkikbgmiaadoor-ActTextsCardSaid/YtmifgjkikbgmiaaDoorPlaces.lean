/-
  fail.Places; the law's Wrong. No condition.
-/
import Derived.Test.YtmifgjkikbgmiaaDoorAs
import Derived.Test.YtmifgjkikbgmiaaDoorFr
import Derived.Test.YtmifgjkikbgmiaaDoorSeptet
namespace Go.Proofs.YtmifgjkikbgmiaaDoor
set_option linter.unusedVariables false
open Go.RowKit Go.Extern.Stop Go.Stop Go.Extern Go.ChangeShapes

def intL (l : List Int) : List Value := l.map fun z => .int .i64 z
theorem intL_snoc (l : List Int) (z : Int) : intL l ++ [.int .i64 z] = intL (l ++ [z]) := by simp [intL]
theorem infoI : (Tryd.prog.info? 3).map (fun i => (i.zero, i.size, i.bytes)) = some (some (.int .i64 0), 1, 8) := by kernel_rfl
theorem own_keep {w w' : World} {base size n : Nat} {e : TypeId} {v : Value} {xs : List Value} (h : w.ownsRow base e size v n xs) {B : Nat} (hb : Below B w w') (hB : ∀ g, v.ownBlock = some g → g < B) : w'.ownsRow base e size v n xs :=
  ⟨h.1, h.2.imp id fun ⟨g, cap, cur, e1, e2, e3, r⟩ => ⟨g, cap, cur, e1, e2, (hb.block g (hB g (by rw [e1]; rfl))).trans e3, r⟩⟩
theorem own_under {w w' : World} {base size n : Nat} {e : TypeId} {v : Value} {xs : List Value} (h : w.ownsRow base e size v n xs) (hb : Below w.heap.size w w') : w'.ownsRow base e size v n xs :=
  own_keep h hb fun g hg => (World.ownsRow.lt h g hg).2
theorem own_form {w : World} {base n : Nat} {e : TypeId} {v : Value} {xs : List Value} (h : w.ownsRow base e 1 v n xs) (hn : 0 < n) : ∃ g cap, v = .slice (some ⟨g, 0, none⟩) n cap ∧ base ≤ g ∧ g < w.heap.size ∧ n ≤ cap ∧ ∀ j u, xs[j]? = some u → w.cell? ⟨g, j, none⟩ = some u := by
  rcases h.2 with ⟨_, h0⟩ | ⟨g, cap, cur, rfl, h1, h2, h3, _⟩
  · omega
  · refine ⟨g, cap, rfl, h1, (Array.getElem?_eq_some_iff.1 h2).1, h3, fun j u hu => ?_⟩
    have hj : j < n * 1 := by
      have := h.1
      rw [← this]
      exact (List.getElem?_eq_some_iff.1 hu).1
    rw [World.ownsRow.cellAt h j hj, hu]
end Go.Proofs.YtmifgjkikbgmiaaDoor
