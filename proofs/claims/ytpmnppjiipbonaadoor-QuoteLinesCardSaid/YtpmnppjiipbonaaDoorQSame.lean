/-
  The document's Same at rows that are the same; its Lines (layer 4). No condition.
-/
import Derived.Test.YtpmnppjiipbonaaDoorQRef
namespace Go.Proofs.YtpmnppjiipbonaaDoor
set_option linter.unusedVariables false
open Go.RowKit Go.Extern.Stop Go.Stop Go.Extern Go.ChangeShapes

theorem LL.word {w : World} {B : Nat} {A' : Option Addr} {r : List (List UInt8)} (h : Reads w B 1 A' r.length (r.map strL)) {j : Nat} (hj : j < r.length) : ∃ ad, A' = some ad ∧ ad.block < B ∧ w.cell? (ad.add j) = some (.string (bs r[j])) := by
  obtain ⟨ad, e, hb, hr⟩ := h.2 (by omega)
  exact ⟨ad, e, hb, hr j _ (by rw [List.getElem?_map, List.getElem?_eq_getElem hj]; rfl)⟩
set_option maxHeartbeats 1000000 in
set_option maxRecDepth 100000 in
theorem refSame_any {A A2 : Option Addr} {c c2 : Nat} {rows : List (List (List UInt8))} {w : World} (h : LL w w.heap.size A rows) (h2 : LL w w.heap.size A2 rows) (hn : rows.length ≤ 1000000) :
    Calls Tryd.prog 18 #[.slice A rows.length c, .slice A2 rows.length c2] w fun e w' => e = .returned (.bool true) ∧ Below w.heap.size w w' := by
  replace h := Lib.hid h
  replace h2 := Lib.hid h2
  go_enter Tryd.func18, Tryd.ntmps18
  go_wp2_with fail
  go_loopw [5] (fun i wr => ∃ k : Nat, i = .int .i64 k ∧ k ≤ rows.length ∧ Below w.heap.size w wr) (fun i _ => rows.length + 1 - (intOf i).toNat)
  case atStart => exact ⟨0, rfl, by omega, Below.refl _ _⟩
  case round =>
    obtain ⟨k, rfl, hk, hb⟩ := hrel
    by_cases hlt : k < rows.length
    · obtain ⟨ad, A', c', rfl, hab, hcell, hc1, hc2, hrd⟩ := (h.out.below hb).at_ hlt
      obtain ⟨ad2, A2', c2', rfl, hab2, hcell2, hd1, hd2, hrd2⟩ := (h2.out.below hb).at_ hlt
      have hq := Lib.hid (⟨hcell, hcell2⟩ : wr.cell? (ad.add k) = some (.slice A' rows[k].length c') ∧ wr.cell? (ad2.add k) = some (.slice A2' rows[k].length c2'))
      have hml : rows[k].length ≤ 9223372036854775807 := by unfold maxLen at hc2; omega
      generalize rows[k] = r at *
      replace hrd := Lib.hid hrd
      replace hrd2 := Lib.hid hrd2
      go_wp2_with fail
      go_region
      go_wp2
      go_loopw [6] (fun i wr' => ∃ j : Nat, i = .int .i64 j ∧ j ≤ r.length ∧ Below wr.heap.size wr wr') (fun i _ => r.length + 1 - (intOf i).toNat)
      case atStart => exact ⟨0, rfl, by omega, below_drewN (Below.refl _ _) 1⟩
      case round =>
        obtain ⟨j, rfl, hj, hb2⟩ := hrel
        have hsz := hb.size
        have e1 := (hb2.cell (p := ad.add k) (by rw [block_of_add]; omega)).trans hq.out.1
        have e2 := (hb2.cell (p := ad2.add k) (by rw [block_of_add]; omega)).trans hq.out.2
        by_cases hlj : j < r.length
        · obtain ⟨bd, rfl, hbd, f1⟩ := LL.word hrd.out hlj
          obtain ⟨bd2, rfl, hbd2, f2⟩ := LL.word hrd2.out hlj
          have g1 := (hb2.cell (p := bd.add j) (by rw [block_of_add]; omega)).trans f1
          have g2 := (hb2.cell (p := bd2.add j) (by rw [block_of_add]; omega)).trans f2
          clear f1 f2 hcell hcell2
          generalize bs r[j] = x at *
          go_wp2_with fail
          go_region
          go_wp2
          go_roundw
          case rel => exact ⟨j + 1, by go_num, by omega, below_drewN hb2 1⟩
          case measure => simp [intOf]; omega
        · clear hcell hcell2
          go_wp2_with fail
          go_roundw
          case rel => exact ⟨k + 1, by go_num, by omega, Below.next_ hb hb2⟩
          case measure => simp [intOf]; omega
    · go_wp2_with fail
      go_ret
      exact ⟨rfl, hb⟩
end Go.Proofs.YtpmnppjiipbonaaDoor
