import Derived.Test.YtmlnhjfdhjachaaGreatQll19
/-
  What viewing does behind its parts (layer 27): next, pinnedAt, read. No condition. (Printed by tools/vw.py.)
-/
namespace Go.Proofs.YtmlnhjfdhjachaaGreat
set_option linter.unusedVariables false
open Go.ChangeShapes Go.WideShapes Go.ChangeAt Go.RowKit
open Go.ChangeMaps (setBlock)

set_option maxRecDepth 100000 in
set_option maxHeartbeats 4000000 in
theorem viewNextLast_any {w : World} {b : Nat} {c : PCfg} {part acts pp pe sh blk code mark : Int} {pt : Bool} {key : ByteArray} {pv cv sv ov : Value} (hBc : Blk w b 97 #[.int .i64 c.cap, .int .i64 c.pins, .int .i64 c.shelves, .int .i64 c.queue, .int .i64 c.watchers, .int .u64 c.seed, .int .i64 part, .int .i64 acts, pv, .int .i64 pp, .int .u64 pe, .bool pt, .int .i64 sh, .int .u64 blk, .string key, cv, sv, .int .i64 code, .int .i64 0, .int .i64 0, .bool false, .string ⟨#[]⟩, ov, .int .i64 0, .slice none 0 0, .int .i64 mark, .int .u64 0]) (hsh : 0 ≤ sh ∧ sh ≤ 1000) (hl : sh + 1 = c.shelves) :
    Calls Tryz.prog 51 #[.pointer (some ⟨b, 0, none⟩)] w fun e w' => e = .returned (.tuple #[]) ∧ Blk w' b 97 #[.int .i64 c.cap, .int .i64 c.pins, .int .i64 c.shelves, .int .i64 c.queue, .int .i64 c.watchers, .int .u64 c.seed, .int .i64 5, .int .i64 acts, pv, .int .i64 pp, .int .u64 pe, .bool pt, .int .i64 (sh + 1), .int .u64 blk, .string key, cv, sv, .int .i64 code, .int .i64 0, .int .i64 0, .bool false, .string ⟨#[]⟩, ov, .int .i64 0, .slice none 0 0, .int .i64 mark, .int .u64 0] ∧ Chg (fun k => k = b) w w' := by
  have hlt := hBc.lt
  have d1 : (sh + 1 == c.shelves) = true := by simp [hl]
  have hw : wrap64 (sh + 1) = sh + 1 := by unfold wrap64; omega
  obtain ⟨q, hq⟩ : ∃ q, sh + 1 = q := ⟨_, rfl⟩
  have hwq := hw.trans hq
  rw [hq] at d1 hl ⊢
  clear hw
  have c2 := hBc.cell 2
  have c6 := hBc.cell 6
  have c12 := hBc.cell 12
  have f6 := hBc.frozen 6
  have f12 := hBc.frozen 12
  replace hBc := Lib.hid hBc
  replace hl := Lib.hid hl
  replace hq := Lib.hid hq
  replace hsh := Lib.hid hsh
  go_enter Tryz.func51, Tryz.ntmps51
  go_wp2_with fail
  go_region
  all_goals
    go_wp2_with fail
    refine gen_world (α := fun W' => bodyPost _ _ _ _ _ W') (fun W' => Blk W' b 97 #[.int .i64 c.cap, .int .i64 c.pins, .int .i64 c.shelves, .int .i64 c.queue, .int .i64 c.watchers, .int .u64 c.seed, .int .i64 5, .int .i64 acts, pv, .int .i64 pp, .int .u64 pe, .bool pt, .int .i64 q, .int .u64 blk, .string key, cv, sv, .int .i64 code, .int .i64 0, .int .i64 0, .bool false, .string ⟨#[]⟩, ov, .int .i64 0, .slice none 0 0, .int .i64 mark, .int .u64 0] ∧ Chg (fun k => k = b) w W') ⟨?_, ?_⟩ ?_
    · refine Blk.eq_cs (cs := ((((#[.int .i64 c.cap, .int .i64 c.pins, .int .i64 c.shelves, .int .i64 c.queue, .int .i64 c.watchers, .int .u64 c.seed, .int .i64 part, .int .i64 acts, pv, .int .i64 pp, .int .u64 pe, .bool pt, .int .i64 sh, .int .u64 blk, .string key, cv, sv, .int .i64 code, .int .i64 0, .int .i64 0, .bool false, .string ⟨#[]⟩, ov, .int .i64 0, .slice none 0 0, .int .i64 mark, .int .u64 0] : Array Value).setIfInBounds 12 (.int .i64 q)).setIfInBounds 6 (.int .i64 2)).setIfInBounds 6 (.int .i64 5))) ?_ (by kernel_rfl)
      have hB := hBc.out
      (repeat first | with_reducible exact hB | with_reducible refine Blk.drewN ?_ _ | with_reducible refine Blk.drew ?_ | with_reducible refine Blk.alloc ?_ _ | with_reducible refine Blk.set_ ?_ _ _ | refine Blk.far ?_ (by simp; omega) _)
    · have hC := Chg.refl (fun k => k = b) w
      repeat first | with_reducible exact hC | with_reducible refine Chg.drew ?_ | with_reducible refine Chg.drewN ?_ _ | with_reducible refine Chg.alloc ?_ _ | refine Chg.setCell ?_ (by left; rfl) _
    rintro W' ⟨g1, g2⟩
    first | exact bodyPost_end (v := .tuple #[]) (results_none (by kernel_rfl) _ _ _) rfl ⟨rfl, g1, g2⟩ | exact bodyPost_ret (v := .tuple #[]) (results_none (by kernel_rfl) _ _ _) rfl ⟨rfl, g1, g2⟩
set_option maxRecDepth 100000 in
set_option maxHeartbeats 4000000 in
theorem viewNextMore_any {w : World} {b : Nat} {c : PCfg} {part acts pp pe sh blk code mark : Int} {pt : Bool} {key : ByteArray} {pv cv sv ov : Value} (hBc : Blk w b 97 #[.int .i64 c.cap, .int .i64 c.pins, .int .i64 c.shelves, .int .i64 c.queue, .int .i64 c.watchers, .int .u64 c.seed, .int .i64 part, .int .i64 acts, pv, .int .i64 pp, .int .u64 pe, .bool pt, .int .i64 sh, .int .u64 blk, .string key, cv, sv, .int .i64 code, .int .i64 0, .int .i64 0, .bool false, .string ⟨#[]⟩, ov, .int .i64 0, .slice none 0 0, .int .i64 mark, .int .u64 0]) (hsh : 0 ≤ sh ∧ sh ≤ 1000) (hl : ¬ sh + 1 = c.shelves) :
    Calls Tryz.prog 51 #[.pointer (some ⟨b, 0, none⟩)] w fun e w' => e = .returned (.tuple #[]) ∧ Blk w' b 97 #[.int .i64 c.cap, .int .i64 c.pins, .int .i64 c.shelves, .int .i64 c.queue, .int .i64 c.watchers, .int .u64 c.seed, .int .i64 2, .int .i64 acts, pv, .int .i64 pp, .int .u64 pe, .bool pt, .int .i64 (sh + 1), .int .u64 blk, .string key, cv, sv, .int .i64 code, .int .i64 0, .int .i64 0, .bool false, .string ⟨#[]⟩, ov, .int .i64 0, .slice none 0 0, .int .i64 mark, .int .u64 0] ∧ Chg (fun k => k = b) w w' := by
  have hlt := hBc.lt
  have d1 : (sh + 1 == c.shelves) = false := by simp [hl]
  have hw : wrap64 (sh + 1) = sh + 1 := by unfold wrap64; omega
  obtain ⟨q, hq⟩ : ∃ q, sh + 1 = q := ⟨_, rfl⟩
  have hwq := hw.trans hq
  rw [hq] at d1 hl ⊢
  clear hw
  have c2 := hBc.cell 2
  have c6 := hBc.cell 6
  have c12 := hBc.cell 12
  have f6 := hBc.frozen 6
  have f12 := hBc.frozen 12
  replace hBc := Lib.hid hBc
  replace hl := Lib.hid hl
  replace hq := Lib.hid hq
  replace hsh := Lib.hid hsh
  go_enter Tryz.func51, Tryz.ntmps51
  go_wp2_with fail
  go_region
  all_goals
    go_wp2_with fail
    refine gen_world (α := fun W' => bodyPost _ _ _ _ _ W') (fun W' => Blk W' b 97 #[.int .i64 c.cap, .int .i64 c.pins, .int .i64 c.shelves, .int .i64 c.queue, .int .i64 c.watchers, .int .u64 c.seed, .int .i64 2, .int .i64 acts, pv, .int .i64 pp, .int .u64 pe, .bool pt, .int .i64 q, .int .u64 blk, .string key, cv, sv, .int .i64 code, .int .i64 0, .int .i64 0, .bool false, .string ⟨#[]⟩, ov, .int .i64 0, .slice none 0 0, .int .i64 mark, .int .u64 0] ∧ Chg (fun k => k = b) w W') ⟨?_, ?_⟩ ?_
    · refine Blk.eq_cs (cs := (((#[.int .i64 c.cap, .int .i64 c.pins, .int .i64 c.shelves, .int .i64 c.queue, .int .i64 c.watchers, .int .u64 c.seed, .int .i64 part, .int .i64 acts, pv, .int .i64 pp, .int .u64 pe, .bool pt, .int .i64 sh, .int .u64 blk, .string key, cv, sv, .int .i64 code, .int .i64 0, .int .i64 0, .bool false, .string ⟨#[]⟩, ov, .int .i64 0, .slice none 0 0, .int .i64 mark, .int .u64 0] : Array Value).setIfInBounds 12 (.int .i64 q)).setIfInBounds 6 (.int .i64 2))) ?_ (by kernel_rfl)
      have hB := hBc.out
      (repeat first | with_reducible exact hB | with_reducible refine Blk.drewN ?_ _ | with_reducible refine Blk.drew ?_ | with_reducible refine Blk.alloc ?_ _ | with_reducible refine Blk.set_ ?_ _ _ | refine Blk.far ?_ (by simp; omega) _)
    · have hC := Chg.refl (fun k => k = b) w
      repeat first | with_reducible exact hC | with_reducible refine Chg.drew ?_ | with_reducible refine Chg.drewN ?_ _ | with_reducible refine Chg.alloc ?_ _ | refine Chg.setCell ?_ (by left; rfl) _
    rintro W' ⟨g1, g2⟩
    first | exact bodyPost_end (v := .tuple #[]) (results_none (by kernel_rfl) _ _ _) rfl ⟨rfl, g1, g2⟩ | exact bodyPost_ret (v := .tuple #[]) (results_none (by kernel_rfl) _ _ _) rfl ⟨rfl, g1, g2⟩
theorem viewNext_any {w : World} {b : Nat} {c : PCfg} {part acts pp pe sh blk code mark : Int} {pt : Bool} {key : ByteArray} {pv cv sv ov : Value} (hBc : Blk w b 97 #[.int .i64 c.cap, .int .i64 c.pins, .int .i64 c.shelves, .int .i64 c.queue, .int .i64 c.watchers, .int .u64 c.seed, .int .i64 part, .int .i64 acts, pv, .int .i64 pp, .int .u64 pe, .bool pt, .int .i64 sh, .int .u64 blk, .string key, cv, sv, .int .i64 code, .int .i64 0, .int .i64 0, .bool false, .string ⟨#[]⟩, ov, .int .i64 0, .slice none 0 0, .int .i64 mark, .int .u64 0]) (hsh : 0 ≤ sh ∧ sh ≤ 1000) :
    Calls Tryz.prog 51 #[.pointer (some ⟨b, 0, none⟩)] w fun e w' => e = .returned (.tuple #[]) ∧ Blk w' b 97 #[.int .i64 c.cap, .int .i64 c.pins, .int .i64 c.shelves, .int .i64 c.queue, .int .i64 c.watchers, .int .u64 c.seed, .int .i64 (if sh + 1 = c.shelves then 5 else 2), .int .i64 acts, pv, .int .i64 pp, .int .u64 pe, .bool pt, .int .i64 (sh + 1), .int .u64 blk, .string key, cv, sv, .int .i64 code, .int .i64 0, .int .i64 0, .bool false, .string ⟨#[]⟩, ov, .int .i64 0, .slice none 0 0, .int .i64 mark, .int .u64 0] ∧ Chg (fun k => k = b) w w' := by
  by_cases hl : sh + 1 = c.shelves
  · rw [if_pos hl]; exact viewNextLast_any hBc hsh hl
  · rw [if_neg hl]; exact viewNextMore_any hBc hsh hl
set_option maxRecDepth 100000 in
set_option maxHeartbeats 4000000 in
theorem viewPinN_any {w : World} {b : Nat} {c : PCfg} {part acts pp pe sh blk code mark : Int} {pt : Bool} {key : ByteArray} {cv sv ov : Value} {rb : Nat} (hBc : Blk w b 97 #[.int .i64 c.cap, .int .i64 c.pins, .int .i64 c.shelves, .int .i64 c.queue, .int .i64 c.watchers, .int .u64 c.seed, .int .i64 part, .int .i64 acts, .pointer (some ⟨rb, 0, none⟩), .int .i64 pp, .int .u64 pe, .bool pt, .int .i64 sh, .int .u64 blk, .string key, cv, sv, .int .i64 code, .int .i64 0, .int .i64 0, .bool false, .string ⟨#[]⟩, ov, .int .i64 0, .slice none 0 0, .int .i64 mark, .int .u64 0])
    (hR : ∀ W : World, Below w.heap.size w W → Calls Tryz.prog 81 #[.pointer (some ⟨rb, 0, none⟩)] W fun x w' => x = .returned (.tuple #[.agg #[.int .i64 0, .int .u64 0, .bool false], .bool false]) ∧ Below W.heap.size W w') :
    Calls Tryz.prog 50 #[.pointer (some ⟨b, 0, none⟩)] w fun x w' => x = .returned (.tuple #[]) ∧ Below w.heap.size w w' := by
  have hR0 := hR w (Below.refl _ _)
  have hlt := hBc.lt
  have c8 := hBc.cell 8
  clear hR
  replace hBc := Lib.hid hBc
  replace hR0 := Lib.hid hR0
  go_enter Tryz.func50, Tryz.ntmps50
  go_wp2_with fail
  refine (hR0.out).mono ?_; rintro x w1 ⟨rfl, hb⟩
  have hB1 := hBc.out.below hb hlt
  have hs1 := hb.size
  have hC1 : Chg (fun k => k = b) w w1 := Chg.of_below hb _
  have hlt1 := hB1.lt
  clear c8
  replace hB1 := Lib.hid hB1
  replace hC1 := Lib.hid hC1
  replace hb := Lib.hid hb
  go_wp2_with fail
  first | exact bodyPost_end (v := .tuple #[]) (results_none (by kernel_rfl) _ _ _) rfl ⟨rfl, hb.out.alloc hb.out.size _⟩ | exact bodyPost_ret (v := .tuple #[]) (results_none (by kernel_rfl) _ _ _) rfl ⟨rfl, hb.out.alloc hb.out.size _⟩
set_option maxRecDepth 100000 in
set_option maxHeartbeats 4000000 in
theorem viewPinT_any {w : World} {b : Nat} {c : PCfg} {part acts pp pe sh blk code mark : Int} {pt : Bool} {key : ByteArray} {cv sv ov : Value} {rb : Nat} {p e : Int} (hBc : Blk w b 97 #[.int .i64 c.cap, .int .i64 c.pins, .int .i64 c.shelves, .int .i64 c.queue, .int .i64 c.watchers, .int .u64 c.seed, .int .i64 part, .int .i64 acts, .pointer (some ⟨rb, 0, none⟩), .int .i64 pp, .int .u64 pe, .bool pt, .int .i64 sh, .int .u64 blk, .string key, cv, sv, .int .i64 code, .int .i64 0, .int .i64 0, .bool false, .string ⟨#[]⟩, ov, .int .i64 0, .slice none 0 0, .int .i64 mark, .int .u64 0])
    (hR : ∀ W : World, Below w.heap.size w W → Calls Tryz.prog 81 #[.pointer (some ⟨rb, 0, none⟩)] W fun x w' => x = .returned (.tuple #[.agg #[.int .i64 p, .int .u64 e, .bool true], .bool true]) ∧ Below W.heap.size W w') :
    Calls Tryz.prog 50 #[.pointer (some ⟨b, 0, none⟩)] w fun x w' => x = .returned (.tuple #[]) ∧ Blk w' b 97 #[.int .i64 c.cap, .int .i64 c.pins, .int .i64 c.shelves, .int .i64 c.queue, .int .i64 c.watchers, .int .u64 c.seed, .int .i64 6, .int .i64 acts, .pointer (some ⟨rb, 0, none⟩), .int .i64 pp, .int .u64 pe, .bool pt, .int .i64 sh, .int .u64 blk, .string key, cv, sv, .int .i64 11, .int .i64 0, .int .i64 0, .bool false, .string ⟨#[]⟩, ov, .int .i64 0, .slice none 0 0, .int .i64 mark, .int .u64 0] ∧ Chg (fun k => k = b) w w' := by
  have hR0 := hR w (Below.refl _ _)
  have hlt := hBc.lt
  have c8 := hBc.cell 8
  clear hR
  replace hBc := Lib.hid hBc
  replace hR0 := Lib.hid hR0
  go_enter Tryz.func50, Tryz.ntmps50
  go_wp2_with fail
  refine (hR0.out).mono ?_; rintro x w1 ⟨rfl, hb⟩
  have hB1 := hBc.out.below hb hlt
  have hs1 := hb.size
  have hC1 : Chg (fun k => k = b) w w1 := Chg.of_below hb _
  have hlt1 := hB1.lt
  clear c8
  have c6 := hB1.cell 6
  have c17 := hB1.cell 17
  have f6 := hB1.frozen 6
  have f17 := hB1.frozen 17
  replace hB1 := Lib.hid hB1
  replace hC1 := Lib.hid hC1
  go_wp2_with fail
  refine gen_world (α := fun W' => bodyPost _ _ _ _ _ W') (fun W' => Blk W' b 97 #[.int .i64 c.cap, .int .i64 c.pins, .int .i64 c.shelves, .int .i64 c.queue, .int .i64 c.watchers, .int .u64 c.seed, .int .i64 6, .int .i64 acts, .pointer (some ⟨rb, 0, none⟩), .int .i64 pp, .int .u64 pe, .bool pt, .int .i64 sh, .int .u64 blk, .string key, cv, sv, .int .i64 11, .int .i64 0, .int .i64 0, .bool false, .string ⟨#[]⟩, ov, .int .i64 0, .slice none 0 0, .int .i64 mark, .int .u64 0] ∧ Chg (fun k => k = b) w W') ⟨?_, ?_⟩ ?_
  · refine Blk.eq_cs (cs := (((#[.int .i64 c.cap, .int .i64 c.pins, .int .i64 c.shelves, .int .i64 c.queue, .int .i64 c.watchers, .int .u64 c.seed, .int .i64 part, .int .i64 acts, .pointer (some ⟨rb, 0, none⟩), .int .i64 pp, .int .u64 pe, .bool pt, .int .i64 sh, .int .u64 blk, .string key, cv, sv, .int .i64 code, .int .i64 0, .int .i64 0, .bool false, .string ⟨#[]⟩, ov, .int .i64 0, .slice none 0 0, .int .i64 mark, .int .u64 0] : Array Value).setIfInBounds 17 (.int .i64 11)).setIfInBounds 6 (.int .i64 6))) ?_ (by kernel_rfl)
    have hB := hB1.out
    (repeat first | with_reducible exact hB | with_reducible refine Blk.drewN ?_ _ | with_reducible refine Blk.drew ?_ | with_reducible refine Blk.alloc ?_ _ | with_reducible refine Blk.set_ ?_ _ _ | refine Blk.far ?_ (by simp; omega) _)
  · have hC := hC1.out
    repeat first | with_reducible exact hC | with_reducible refine Chg.drew ?_ | with_reducible refine Chg.drewN ?_ _ | with_reducible refine Chg.alloc ?_ _ | refine Chg.setCell ?_ (by left; rfl) _
  rintro W' ⟨g1, g2⟩
  first | exact bodyPost_end (v := .tuple #[]) (results_none (by kernel_rfl) _ _ _) rfl ⟨rfl, g1, g2⟩ | exact bodyPost_ret (v := .tuple #[]) (results_none (by kernel_rfl) _ _ _) rfl ⟨rfl, g1, g2⟩
set_option maxRecDepth 100000 in
set_option maxHeartbeats 4000000 in
theorem viewPinP_any {w : World} {b : Nat} {c : PCfg} {part acts pp pe sh blk code mark : Int} {pt : Bool} {key : ByteArray} {cv sv ov : Value} {rb : Nat} {p e : Int} (hBc : Blk w b 97 #[.int .i64 c.cap, .int .i64 c.pins, .int .i64 c.shelves, .int .i64 c.queue, .int .i64 c.watchers, .int .u64 c.seed, .int .i64 part, .int .i64 acts, .pointer (some ⟨rb, 0, none⟩), .int .i64 pp, .int .u64 pe, .bool pt, .int .i64 sh, .int .u64 blk, .string key, cv, sv, .int .i64 code, .int .i64 0, .int .i64 0, .bool false, .string ⟨#[]⟩, ov, .int .i64 0, .slice none 0 0, .int .i64 mark, .int .u64 0])
    (hR : ∀ W : World, Below w.heap.size w W → Calls Tryz.prog 81 #[.pointer (some ⟨rb, 0, none⟩)] W fun x w' => x = .returned (.tuple #[.agg #[.int .i64 p, .int .u64 e, .bool false], .bool true]) ∧ Below W.heap.size W w') :
    Calls Tryz.prog 50 #[.pointer (some ⟨b, 0, none⟩)] w fun x w' => x = .returned (.tuple #[]) ∧ Blk w' b 97 #[.int .i64 c.cap, .int .i64 c.pins, .int .i64 c.shelves, .int .i64 c.queue, .int .i64 c.watchers, .int .u64 c.seed, .int .i64 2, .int .i64 acts, .pointer (some ⟨rb, 0, none⟩), .int .i64 p, .int .u64 e, .bool false, .int .i64 sh, .int .u64 blk, .string key, cv, sv, .int .i64 code, .int .i64 0, .int .i64 0, .bool false, .string ⟨#[]⟩, ov, .int .i64 0, .slice none 0 0, .int .i64 acts, .int .u64 0] ∧ Chg (fun k => k = b) w w' := by
  have hR0 := hR w (Below.refl _ _)
  have hlt := hBc.lt
  have c8 := hBc.cell 8
  clear hR
  replace hBc := Lib.hid hBc
  replace hR0 := Lib.hid hR0
  go_enter Tryz.func50, Tryz.ntmps50
  go_wp2_with fail
  refine (hR0.out).mono ?_; rintro x w1 ⟨rfl, hb⟩
  have hB1 := hBc.out.below hb hlt
  have hs1 := hb.size
  have hC1 : Chg (fun k => k = b) w w1 := Chg.of_below hb _
  have hlt1 := hB1.lt
  clear c8
  have c6 := hB1.cell 6
  have c7 := hB1.cell 7
  have c9 := hB1.cell 9
  have c10 := hB1.cell 10
  have c11 := hB1.cell 11
  have c25 := hB1.cell 25
  have f6 := hB1.frozen 6
  have f9 := hB1.frozen 9
  have f10 := hB1.frozen 10
  have f11 := hB1.frozen 11
  have f25 := hB1.frozen 25
  replace hB1 := Lib.hid hB1
  replace hC1 := Lib.hid hC1
  go_wp2_with fail
  go_region
  all_goals
    go_wp2_with fail
    refine gen_world (α := fun W' => bodyPost _ _ _ _ _ W') (fun W' => Blk W' b 97 #[.int .i64 c.cap, .int .i64 c.pins, .int .i64 c.shelves, .int .i64 c.queue, .int .i64 c.watchers, .int .u64 c.seed, .int .i64 2, .int .i64 acts, .pointer (some ⟨rb, 0, none⟩), .int .i64 p, .int .u64 e, .bool false, .int .i64 sh, .int .u64 blk, .string key, cv, sv, .int .i64 code, .int .i64 0, .int .i64 0, .bool false, .string ⟨#[]⟩, ov, .int .i64 0, .slice none 0 0, .int .i64 acts, .int .u64 0] ∧ Chg (fun k => k = b) w W') ⟨?_, ?_⟩ ?_
    · refine Blk.eq_cs (cs := ((((((#[.int .i64 c.cap, .int .i64 c.pins, .int .i64 c.shelves, .int .i64 c.queue, .int .i64 c.watchers, .int .u64 c.seed, .int .i64 part, .int .i64 acts, .pointer (some ⟨rb, 0, none⟩), .int .i64 pp, .int .u64 pe, .bool pt, .int .i64 sh, .int .u64 blk, .string key, cv, sv, .int .i64 code, .int .i64 0, .int .i64 0, .bool false, .string ⟨#[]⟩, ov, .int .i64 0, .slice none 0 0, .int .i64 mark, .int .u64 0] : Array Value).setIfInBounds 9 (.int .i64 p)).setIfInBounds 10 (.int .u64 e)).setIfInBounds 11 (.bool false)).setIfInBounds 25 (.int .i64 acts)).setIfInBounds 6 (.int .i64 2))) ?_ (by kernel_rfl)
      have hB := hB1.out
      (repeat first | with_reducible exact hB | with_reducible refine Blk.drewN ?_ _ | with_reducible refine Blk.drew ?_ | with_reducible refine Blk.alloc ?_ _ | with_reducible refine Blk.set_ ?_ _ _ | refine Blk.far ?_ (by simp; omega) _)
    · have hC := hC1.out
      repeat first | with_reducible exact hC | with_reducible refine Chg.drew ?_ | with_reducible refine Chg.drewN ?_ _ | with_reducible refine Chg.alloc ?_ _ | refine Chg.setCell ?_ (by left; rfl) _
    rintro W' ⟨g1, g2⟩
    first | exact bodyPost_end (v := .tuple #[]) (results_none (by kernel_rfl) _ _ _) rfl ⟨rfl, g1, g2⟩ | exact bodyPost_ret (v := .tuple #[]) (results_none (by kernel_rfl) _ _ _) rfl ⟨rfl, g1, g2⟩
set_option maxRecDepth 100000 in
set_option maxHeartbeats 4000000 in
theorem viewReadN_any {w : World} {b : Nat} {c : PCfg} {part acts pp pe sh blk code mark : Int} {pt : Bool} {key : ByteArray} {pv sv ov : Value} {rb : Nat} (hBc : Blk w b 97 #[.int .i64 c.cap, .int .i64 c.pins, .int .i64 c.shelves, .int .i64 c.queue, .int .i64 c.watchers, .int .u64 c.seed, .int .i64 part, .int .i64 acts, pv, .int .i64 pp, .int .u64 pe, .bool pt, .int .i64 sh, .int .u64 blk, .string key, .pointer (some ⟨rb, 0, none⟩), sv, .int .i64 code, .int .i64 0, .int .i64 0, .bool false, .string ⟨#[]⟩, ov, .int .i64 0, .slice none 0 0, .int .i64 mark, .int .u64 0]) 
    (hR : ∀ W : World, Below w.heap.size w W → Calls Tryz.prog 84 #[.pointer (some ⟨rb, 0, none⟩)] W fun x w' => x = .returned (.tuple #[.agg #[.bool false, .string ⟨#[]⟩, .int .u64 0], .bool false]) ∧ Below W.heap.size W w') :
    Calls Tryz.prog 54 #[.pointer (some ⟨b, 0, none⟩)] w fun x w' => x = .returned (.tuple #[]) ∧ Below w.heap.size w w' := by
  have hR0 := hR w (Below.refl _ _)
  have hlt := hBc.lt
  have c15 := hBc.cell 15
  clear hR
  replace hBc := Lib.hid hBc
  replace hR0 := Lib.hid hR0
  go_enter Tryz.func54, Tryz.ntmps54
  go_wp2_with fail
  refine (hR0.out).mono ?_; rintro x w1 ⟨rfl, hb⟩
  have hB1 := hBc.out.below hb hlt
  have hs1 := hb.size
  have hlt1 := hB1.lt
  clear c15
  replace hB1 := Lib.hid hB1
  replace hb := Lib.hid hb
  go_wp2_with fail
  first | exact bodyPost_end (v := .tuple #[]) (results_none (by kernel_rfl) _ _ _) rfl ⟨rfl, hb.out.alloc hb.out.size _⟩ | exact bodyPost_ret (v := .tuple #[]) (results_none (by kernel_rfl) _ _ _) rfl ⟨rfl, hb.out.alloc hb.out.size _⟩
set_option maxRecDepth 100000 in
set_option maxHeartbeats 4000000 in
theorem viewReadZ_any {w : World} {b : Nat} {c : PCfg} {part acts pp pe sh blk code mark : Int} {pt : Bool} {key : ByteArray} {pv sv ov : Value} {rb : Nat} {tx : ByteArray} {vk : Int} (hBc : Blk w b 97 #[.int .i64 c.cap, .int .i64 c.pins, .int .i64 c.shelves, .int .i64 c.queue, .int .i64 c.watchers, .int .u64 c.seed, .int .i64 part, .int .i64 acts, pv, .int .i64 pp, .int .u64 pe, .bool pt, .int .i64 sh, .int .u64 blk, .string key, .pointer (some ⟨rb, 0, none⟩), sv, .int .i64 code, .int .i64 0, .int .i64 0, .bool false, .string ⟨#[]⟩, ov, .int .i64 0, .slice none 0 0, .int .i64 mark, .int .u64 0]) (hsh : 0 ≤ sh ∧ sh ≤ 1000) {np q : Int} (hnp : (if sh + 1 = c.shelves then (5 : Int) else 2) = np) (hq : sh + 1 = q)
    (hR : ∀ W : World, Below w.heap.size w W → Calls Tryz.prog 84 #[.pointer (some ⟨rb, 0, none⟩)] W fun x w' => x = .returned (.tuple #[.agg #[.bool false, .string tx, .int .u64 vk], .bool true]) ∧ Below W.heap.size W w') :
    Calls Tryz.prog 54 #[.pointer (some ⟨b, 0, none⟩)] w fun x w' => x = .returned (.tuple #[]) ∧ Blk w' b 97 #[.int .i64 c.cap, .int .i64 c.pins, .int .i64 c.shelves, .int .i64 c.queue, .int .i64 c.watchers, .int .u64 c.seed, .int .i64 np, .int .i64 acts, pv, .int .i64 pp, .int .u64 pe, .bool pt, .int .i64 q, .int .u64 blk, .string key, .pointer (some ⟨rb, 0, none⟩), sv, .int .i64 code, .int .i64 0, .int .i64 0, .bool false, .string ⟨#[]⟩, ov, .int .i64 0, .slice none 0 0, .int .i64 mark, .int .u64 0] ∧ Chg (fun k => k = b) w w' := by
  have hR0 := hR w (Below.refl _ _)
  have hlt := hBc.lt
  have c15 := hBc.cell 15
  clear hR
  replace hnp := Lib.hid hnp
  replace hq := Lib.hid hq
  replace hBc := Lib.hid hBc
  replace hR0 := Lib.hid hR0
  go_enter Tryz.func54, Tryz.ntmps54
  go_wp2_with fail
  refine (hR0.out).mono ?_; rintro x w1 ⟨rfl, hb⟩
  have hB1 := hBc.out.below hb hlt
  have hs1 := hb.size
  have hlt1 := hB1.lt
  clear c15
  have hN := viewNext_any (hB1.alloc (.cells #[.bool false, .string tx, .int .u64 vk] 149)) hsh
  have hC1 : Chg (fun k => k = b) w (w1.alloc (.cells #[.bool false, .string tx, .int .u64 vk] 149)) := (Chg.of_below hb _).alloc _
  rw [hnp.out, hq.out] at hN
  replace hB1 := Lib.hid hB1
  replace hb := Lib.hid hb
  replace hN := Lib.hid hN
  replace hC1 := Lib.hid hC1
  replace hsh := Lib.hid hsh
  go_wp2_with fail
  refine (hN.out).mono ?_; rintro x w2 ⟨rfl, hB2, hC2⟩
  replace hB2 := Lib.hid hB2
  replace hC2 := Lib.hid hC2
  go_wp2_with fail
  first | exact bodyPost_end (v := .tuple #[]) (results_none (by kernel_rfl) _ _ _) rfl ⟨rfl, hB2.out, hC1.out.trans hC2.out fun i hi => Or.inl hi⟩ | exact bodyPost_ret (v := .tuple #[]) (results_none (by kernel_rfl) _ _ _) rfl ⟨rfl, hB2.out, hC1.out.trans hC2.out fun i hi => Or.inl hi⟩
set_option maxRecDepth 100000 in
set_option maxHeartbeats 4000000 in
theorem viewReadY_any {w : World} {b : Nat} {c : PCfg} {part acts pp pe sh blk code mark : Int} {pt : Bool} {key : ByteArray} {pv ov : Value} {rb : Nat} {tx : ByteArray} {vk : Int} {mb : Nat} (hBc : Blk w b 97 #[.int .i64 c.cap, .int .i64 c.pins, .int .i64 c.shelves, .int .i64 c.queue, .int .i64 c.watchers, .int .u64 c.seed, .int .i64 part, .int .i64 acts, pv, .int .i64 pp, .int .u64 pe, .bool pt, .int .i64 sh, .int .u64 blk, .string key, .pointer (some ⟨rb, 0, none⟩), (.map (some mb)), .int .i64 code, .int .i64 0, .int .i64 0, .bool false, .string ⟨#[]⟩, ov, .int .i64 0, .slice none 0 0, .int .i64 mark, .int .u64 0]) {seen : List (ByteArray × ByteArray)} (hM : MapTs w mb (seenV seen)) (hks : ∀ q ∈ seen, txtOk q.1.data.toList) (hkey : txtOk key.data.toList) (hsh : 0 ≤ sh ∧ sh ≤ 1000) {np q : Int} (hnp : (if sh + 1 = c.shelves then (5 : Int) else 2) = np) (hq : sh + 1 = q)
    (hR : ∀ W : World, Below w.heap.size w W → Calls Tryz.prog 84 #[.pointer (some ⟨rb, 0, none⟩)] W fun x w' => x = .returned (.tuple #[.agg #[.bool true, .string tx, .int .u64 vk], .bool true]) ∧ Below W.heap.size W w') :
    Calls Tryz.prog 54 #[.pointer (some ⟨b, 0, none⟩)] w fun x w' => x = .returned (.tuple #[]) ∧ Blk w' b 97 #[.int .i64 c.cap, .int .i64 c.pins, .int .i64 c.shelves, .int .i64 c.queue, .int .i64 c.watchers, .int .u64 c.seed, .int .i64 np, .int .i64 acts, pv, .int .i64 pp, .int .u64 pe, .bool pt, .int .i64 q, .int .u64 blk, .string key, .pointer (some ⟨rb, 0, none⟩), (.map (some mb)), .int .i64 code, .int .i64 0, .int .i64 0, .bool false, .string ⟨#[]⟩, ov, .int .i64 0, .slice none 0 0, .int .i64 mark, .int .u64 0] ∧ MapTs w' mb (seenV (putM seen key tx)) ∧ Chg (fun k => k = b ∨ k = mb) w w' := by
  have hR0 := hR w (Below.refl _ _)
  have hlt := hBc.lt
  have c15 := hBc.cell 15
  clear hR
  replace hnp := Lib.hid hnp
  replace hq := Lib.hid hq
  replace hBc := Lib.hid hBc
  replace hR0 := Lib.hid hR0
  go_enter Tryz.func54, Tryz.ntmps54
  go_wp2_with fail
  refine (hR0.out).mono ?_; rintro x w1 ⟨rfl, hb⟩
  have hB1 := hBc.out.below hb hlt
  have hs1 := hb.size
  have hlt1 := hB1.lt
  clear c15
  have hkk : ∀ p ∈ seenV seen, txtOk p.1 := fun p hp => by
    obtain ⟨q, hq, rfl⟩ := List.mem_map.1 hp
    exact hks q hq
  have hM1 := hM.keep (hb.block mb hM.lt)
  have hmb : mb ≠ b := fun e => by
    have h1 := hB1
    obtain ⟨es, cl, h2, _⟩ := hM1.some_
    rw [e] at h2
    have h3 : w1.heap[b]? = some (.cells _ _) := h1
    rw [h2] at h3
    cases h3
  have hmlt := hM1.lt
  obtain ⟨ob, hob1, hob2⟩ := run_putT 95 90 Tryz.underlying95 hM1 hkk (k := key.data.toList) hkey (.agg #[.string key, .string tx])
  rw [seen_put] at hob2
  have hB2 := hB1.alloc (.cells #[.bool true, .string tx, .int .u64 vk] 149)
  have hV2 := Blk.new w1 149 #[.bool true, .string tx, .int .u64 vk]
  have hS0 : (fun W' : World => W'.cell? ⟨b, 16, none⟩ = some (.map (some mb)) ∧ W'.cell? ⟨b, 14, none⟩ = some (.string key) ∧ W'.cell? ⟨w1.heap.size, 1, none⟩ = some (.string tx)) (w1.alloc (.cells #[.bool true, .string tx, .int .u64 vk] 149)).drew := ⟨hB2.cell 16, hB2.cell 14, hV2.cell 1⟩
  have hpt : (Instr.mapUpdate 95 (.map (some mb)) (.string key) (.agg #[.string key, .string tx])).run Tryz.prog (w1.alloc (.cells #[.bool true, .string tx, .int .u64 vk] 149)).drew = .ok () (setBlock (w1.alloc (.cells #[.bool true, .string tx, .int .u64 vk] 149)).drew mb ob) := hob1 _ (Below.heap_alloc _ _ _ hmlt)
  have hB3 := Blk.setb hB2.drew (Ne.symm hmb) ob
  have hV3 := Blk.setb hV2.drew (m := mb) (by omega) ob
  have hM3 := hob2 (w1.alloc (.cells #[.bool true, .string tx, .int .u64 vk] 149)).drew (by simp; omega)
  have hNx := viewNext_any hB3 hsh
  have hS1 : (fun W' : World => W'.cell? ⟨b, 16, none⟩ = some (.map (some mb)) ∧ W'.cell? ⟨b, 14, none⟩ = some (.string key) ∧ W'.cell? ⟨w1.heap.size, 1, none⟩ = some (.string tx)) (setBlock (w1.alloc (.cells #[.bool true, .string tx, .int .u64 vk] 149)).drew mb ob) := ⟨hB3.cell 16, hB3.cell 14, hV3.cell 1⟩
  have hlt3 := hB3.lt
  rw [hnp.out, hq.out] at hNx
  have hC1 : Chg (fun k => k = b ∨ k = mb) w (w1.alloc (.cells #[.bool true, .string tx, .int .u64 vk] 149)) := (Chg.of_below hb _).alloc _
  have v0 := hV2.cell 0
  replace hB1 := Lib.hid hB1
  replace hb := Lib.hid hb
  replace hC1 := Lib.hid hC1
  replace hB2 := Lib.hid hB2
  replace hV2 := Lib.hid hV2
  replace hob1 := Lib.hid hob1
  replace hob2 := Lib.hid hob2
  replace hM1 := Lib.hid hM1
  replace hkk := Lib.hid hkk
  replace hM := Lib.hid hM
  replace hmb := Lib.hid hmb
  replace hB3 := Lib.hid hB3
  replace hV3 := Lib.hid hV3
  replace hM3 := Lib.hid hM3
  replace hNx := Lib.hid hNx
  replace hS0 := Lib.hid hS0
  replace hS1 := Lib.hid hS1
  replace hsh := Lib.hid hsh
  replace hkey := Lib.hid hkey
  replace hks := Lib.hid hks
  go_upto_region 3 with fail
  refine wp_region_lex [(true, 0), (true, 1), (true, 2), (true, 3), (true, 4), (true, 5), (true, 6), (true, 7), (true, 8), (true, 9), (true, 10), (true, 11), (true, 12), (true, 13), (true, 14), (false, 15)] (fun W' => W'.cell? ⟨b, 16, none⟩ = some (.map (some mb)) ∧ W'.cell? ⟨b, 14, none⟩ = some (.string key) ∧ W'.cell? ⟨w1.heap.size, 1, none⟩ = some (.string tx)) (by kernel_rfl) (by kernel_rfl) (fun R hR => ?_)
  have hHeld := hS0.out
  repeat (refine lex_take (v := ?_) rfl (by rfl) (by assumption) ?_ ?_; rotate_left 1; (focus (intro w hSw; (try dsimp only at hSw); go_simp; (try with_reducible rfl))); (try simp only [Act.put, List.setIfInBounds_toArray, List.set_cons_zero, List.set_cons_succ]))
  (refine lex_call rfl (by rfl) (fun K hq => ?_); go_simp)
  have hHeld := hS1.out
  (refine hq.out _ _ _ (fun _ h => h) hHeld ?_; clear hq K; (try simp only [Act.put, List.setIfInBounds_toArray, List.set_cons_zero, List.set_cons_succ]))
  refine lex_end (hR.out _ _ ?_)
  clear hR R hHeld hpt
  obtain ⟨W3, hW3⟩ : ∃ W3, W3 = setBlock (w1.alloc (.cells #[.bool true, .string tx, .int .u64 vk] 149)).drew mb ob := ⟨_, rfl⟩
  have hC3 : Chg (fun k => k = b ∨ k = mb) w W3 := by rw [hW3]; exact Chg.setBlock hC1.out.drew (.inl (.inr rfl)) ob
  have hM4 : MapTs W3 mb (seenV (putM seen key tx)) := by rw [hW3]; exact hM3.out
  have hNx4 := hNx.out
  rw [← hW3] at hNx4 ⊢
  have hml3 := hM4.lt
  replace hC3 := Lib.hid hC3
  replace hM4 := Lib.hid hM4
  replace hNx4 := Lib.hid hNx4
  replace hW3 := Lib.hid hW3
  go_wp2_with fail
  refine (hNx4.out).mono ?_; rintro x w4 ⟨rfl, hB4, hC4⟩
  have hM5 := hM4.out.keep (hC4.block mb hml3 hmb.out)
  have hC5 := hC3.out.trans hC4 fun i hi => Or.inl (Or.inl hi)
  replace hB4 := Lib.hid hB4
  replace hC4 := Lib.hid hC4
  replace hM5 := Lib.hid hM5
  replace hC5 := Lib.hid hC5
  go_wp2_with fail
  first | exact bodyPost_end (v := .tuple #[]) (results_none (by kernel_rfl) _ _ _) rfl ⟨rfl, hB4.out, hM5.out, hC5.out⟩ | exact bodyPost_ret (v := .tuple #[]) (results_none (by kernel_rfl) _ _ _) rfl ⟨rfl, hB4.out, hM5.out, hC5.out⟩
end Go.Proofs.YtmlnhjfdhjachaaGreat

/-
  What viewing takes (layer 27), part by part. No condition. (Printed by tools/vw.py.)
-/
namespace Go.Proofs.YtmlnhjfdhjachaaGreat
set_option linter.unusedVariables false
open Go.ChangeShapes Go.WideShapes Go.ChangeAt Go.RowKit
open Go.ChangeMaps (setBlock)

set_option maxRecDepth 100000 in
set_option maxHeartbeats 4000000 in
theorem viewTake1_any {w : World} {b : Nat} {c : PCfg} {acts pp pe sh blk code mark : Int} {pt : Bool} {key : ByteArray} {cv sv ov : Value} {rb : Nat} {gw : Int} {gt : ByteArray} (hBc : Blk w b 97 #[.int .i64 c.cap, .int .i64 c.pins, .int .i64 c.shelves, .int .i64 c.queue, .int .i64 c.watchers, .int .u64 c.seed, .int .i64 1, .int .i64 acts, .pointer (some ⟨rb, 0, none⟩), .int .i64 pp, .int .u64 pe, .bool pt, .int .i64 sh, .int .u64 blk, .string key, cv, sv, .int .i64 code, .int .i64 0, .int .i64 0, .bool false, .string ⟨#[]⟩, ov, .int .i64 0, .slice none 0 0, .int .i64 mark, .int .u64 0]) (hne : rb ≠ b) (hrb : rb < w.heap.size) {P : World → Prop} {Post : World → World → Prop}
    (hT : ∀ W : World, W.heap[rb]? = w.heap[rb]? → Calls Tryz.prog 49 #[.pointer (some ⟨rb, 0, none⟩), .agg #[.int .u64 gw, .string gt]] W fun e w' => e = .returned (.tuple #[]) ∧ P w' ∧ Chg (fun k => k = rb) W w')
    (hS : ∀ W : World, Blk W b 97 #[.int .i64 c.cap, .int .i64 c.pins, .int .i64 c.shelves, .int .i64 c.queue, .int .i64 c.watchers, .int .u64 c.seed, .int .i64 1, .int .i64 (IntKind.i64.wrap (acts + 1)), .pointer (some ⟨rb, 0, none⟩), .int .i64 pp, .int .u64 pe, .bool pt, .int .i64 sh, .int .u64 blk, .string key, cv, sv, .int .i64 code, .int .i64 0, .int .i64 0, .bool false, .string ⟨#[]⟩, ov, .int .i64 0, .slice none 0 0, .int .i64 mark, .int .u64 0] → P W → Chg (fun k => k = rb ∨ k = b) w W → Calls Tryz.prog 50 #[.pointer (some ⟨b, 0, none⟩)] W fun e w' => e = .returned (.tuple #[]) ∧ Post W w') :
    Calls Tryz.prog 14 #[.pointer (some ⟨b, 0, none⟩), .agg #[.int .u64 gw, .string gt]] w fun e w' => e = .returned (.tuple #[]) ∧ ∃ W, P W ∧ Blk W b 97 #[.int .i64 c.cap, .int .i64 c.pins, .int .i64 c.shelves, .int .i64 c.queue, .int .i64 c.watchers, .int .u64 c.seed, .int .i64 1, .int .i64 (IntKind.i64.wrap (acts + 1)), .pointer (some ⟨rb, 0, none⟩), .int .i64 pp, .int .u64 pe, .bool pt, .int .i64 sh, .int .u64 blk, .string key, cv, sv, .int .i64 code, .int .i64 0, .int .i64 0, .bool false, .string ⟨#[]⟩, ov, .int .i64 0, .slice none 0 0, .int .i64 mark, .int .u64 0] ∧ Chg (fun k => k = rb ∨ k = b) w W ∧ Post W w' := by
  have hne1 : ¬ rb = b := hne
  have hne2 : ¬ b = rb := fun e => hne e.symm
  have hlt := hBc.lt
  generalize hac : IntKind.i64.wrap (acts + 1) = ac at *
  have hac2 : wrap64 (acts + 1) = ac := by rw [← IntWalk.i64_left]; exact hac
  have c6 := hBc.cell 6
  have c7 := hBc.cell 7
  have c8 := hBc.cell 8
  have f7 := hBc.frozen 7
  replace hBc := Lib.hid hBc
  replace hac := Lib.hid hac
  replace hT := Lib.hid hT
  replace hS := Lib.hid hS
  replace hne := Lib.hid hne
  go_enter Tryz.func14, Tryz.ntmps14
  go_wp2_with fail
  refine gen_world (α := fun W' => _) (fun W' => Blk W' b 97 #[.int .i64 c.cap, .int .i64 c.pins, .int .i64 c.shelves, .int .i64 c.queue, .int .i64 c.watchers, .int .u64 c.seed, .int .i64 1, .int .i64 ac, .pointer (some ⟨rb, 0, none⟩), .int .i64 pp, .int .u64 pe, .bool pt, .int .i64 sh, .int .u64 blk, .string key, cv, sv, .int .i64 code, .int .i64 0, .int .i64 0, .bool false, .string ⟨#[]⟩, ov, .int .i64 0, .slice none 0 0, .int .i64 mark, .int .u64 0] ∧ Blk W' w.heap.size 52 #[.int .u64 gw, .string gt] ∧ Chg (fun k => k = b) w W') ⟨?_, ?_, ?_⟩ ?_
  · refine Blk.eq_cs (cs := ((#[.int .i64 c.cap, .int .i64 c.pins, .int .i64 c.shelves, .int .i64 c.queue, .int .i64 c.watchers, .int .u64 c.seed, .int .i64 1, .int .i64 acts, .pointer (some ⟨rb, 0, none⟩), .int .i64 pp, .int .u64 pe, .bool pt, .int .i64 sh, .int .u64 blk, .string key, cv, sv, .int .i64 code, .int .i64 0, .int .i64 0, .bool false, .string ⟨#[]⟩, ov, .int .i64 0, .slice none 0 0, .int .i64 mark, .int .u64 0] : Array Value).setIfInBounds 7 (.int .i64 ac))) ?_ rfl
    have hB := hBc.out
    (repeat first | with_reducible exact hB | with_reducible refine Blk.drewN ?_ _ | with_reducible refine Blk.drew ?_ | with_reducible refine Blk.alloc ?_ _ | with_reducible refine Blk.set_ ?_ _ _ | refine Blk.far ?_ (by simp; omega) _)
  · have hN0 := Blk.new (w.setCell ⟨b, 7, none⟩ (.int .i64 ac)) 52 #[.int .u64 gw, .string gt]
    rw [size_setCell] at hN0
    exact hN0
  · have hC := Chg.refl (fun k => k = b) w
    repeat first | with_reducible exact hC | with_reducible refine Chg.drew ?_ | with_reducible refine Chg.drewN ?_ _ | with_reducible refine Chg.alloc ?_ _ | refine Chg.setCell ?_ (by left; rfl) _
  rintro W' ⟨g1, g0, g2⟩
  have hs := g2.size
  have hltw := g1.lt
  have u0 := g0.cell 0
  have u1 := g0.cell 1
  have hltk := g0.lt
  have v6 := g1.cell 6
  have v8 := g1.cell 8
  have hTw := hT.out W'.drew (g2.block rb hrb hne1)
  clear c6 c7 c8 f7
  replace g1 := Lib.hid g1
  replace g2 := Lib.hid g2
  replace g0 := Lib.hid g0
  replace hTw := Lib.hid hTw
  go_wp2_with fail
  go_region_with (go_at_call 49; refine (hTw.out).mono ?_; rintro x w2 ⟨rfl, hp, hC2⟩; have hBw := Blk.keep (w := W') (w' := w2) g1.out (hC2.block b hltw hne2); have hC3 : Chg (fun k => k = rb ∨ k = b) w w2 := (g2.out.drew.mono (fun i hi => Or.inr hi)).trans hC2 (fun i hi => Or.inl (Or.inl hi)); have hSw := hS.out w2 hBw hp hC3; clear hC2; replace hBw := Lib.hid hBw; replace hC3 := Lib.hid hC3; replace hSw := Lib.hid hSw; replace hp := Lib.hid hp)
  all_goals
    go_wp2_with fail
    refine (hSw.out).mono ?_; rintro x w3 ⟨rfl, hq⟩
    replace hq := Lib.hid hq
    go_wp2_with fail
    first | exact bodyPost_end (v := .tuple #[]) (results_none (by kernel_rfl) _ _ _) rfl ⟨rfl, w2, hp.out, hBw.out, hC3.out, hq.out⟩ | exact bodyPost_ret (v := .tuple #[]) (results_none (by kernel_rfl) _ _ _) rfl ⟨rfl, w2, hp.out, hBw.out, hC3.out, hq.out⟩
set_option maxRecDepth 100000 in
set_option maxHeartbeats 4000000 in
theorem viewTake4_any {w : World} {b : Nat} {c : PCfg} {acts pp pe sh blk code mark : Int} {pt : Bool} {key : ByteArray} {pv sv ov : Value} {rb : Nat} {gw : Int} {gt : ByteArray} (hBc : Blk w b 97 #[.int .i64 c.cap, .int .i64 c.pins, .int .i64 c.shelves, .int .i64 c.queue, .int .i64 c.watchers, .int .u64 c.seed, .int .i64 4, .int .i64 acts, pv, .int .i64 pp, .int .u64 pe, .bool pt, .int .i64 sh, .int .u64 blk, .string key, .pointer (some ⟨rb, 0, none⟩), sv, .int .i64 code, .int .i64 0, .int .i64 0, .bool false, .string ⟨#[]⟩, ov, .int .i64 0, .slice none 0 0, .int .i64 mark, .int .u64 0]) (hne : rb ≠ b) (hrb : rb < w.heap.size) {P : World → Prop} {Post : World → World → Prop}
    (hT : ∀ W : World, W.heap[rb]? = w.heap[rb]? → Calls Tryz.prog 53 #[.pointer (some ⟨rb, 0, none⟩), .agg #[.int .u64 gw, .string gt]] W fun e w' => e = .returned (.tuple #[]) ∧ P w' ∧ Chg (fun k => k = rb) W w')
    (hS : ∀ W : World, Blk W b 97 #[.int .i64 c.cap, .int .i64 c.pins, .int .i64 c.shelves, .int .i64 c.queue, .int .i64 c.watchers, .int .u64 c.seed, .int .i64 4, .int .i64 (IntKind.i64.wrap (acts + 1)), pv, .int .i64 pp, .int .u64 pe, .bool pt, .int .i64 sh, .int .u64 blk, .string key, .pointer (some ⟨rb, 0, none⟩), sv, .int .i64 code, .int .i64 0, .int .i64 0, .bool false, .string ⟨#[]⟩, ov, .int .i64 0, .slice none 0 0, .int .i64 mark, .int .u64 0] → P W → Chg (fun k => k = rb ∨ k = b) w W → Calls Tryz.prog 54 #[.pointer (some ⟨b, 0, none⟩)] W fun e w' => e = .returned (.tuple #[]) ∧ Post W w') :
    Calls Tryz.prog 14 #[.pointer (some ⟨b, 0, none⟩), .agg #[.int .u64 gw, .string gt]] w fun e w' => e = .returned (.tuple #[]) ∧ ∃ W, P W ∧ Blk W b 97 #[.int .i64 c.cap, .int .i64 c.pins, .int .i64 c.shelves, .int .i64 c.queue, .int .i64 c.watchers, .int .u64 c.seed, .int .i64 4, .int .i64 (IntKind.i64.wrap (acts + 1)), pv, .int .i64 pp, .int .u64 pe, .bool pt, .int .i64 sh, .int .u64 blk, .string key, .pointer (some ⟨rb, 0, none⟩), sv, .int .i64 code, .int .i64 0, .int .i64 0, .bool false, .string ⟨#[]⟩, ov, .int .i64 0, .slice none 0 0, .int .i64 mark, .int .u64 0] ∧ Chg (fun k => k = rb ∨ k = b) w W ∧ Post W w' := by
  have hne1 : ¬ rb = b := hne
  have hne2 : ¬ b = rb := fun e => hne e.symm
  have hlt := hBc.lt
  generalize hac : IntKind.i64.wrap (acts + 1) = ac at *
  have hac2 : wrap64 (acts + 1) = ac := by rw [← IntWalk.i64_left]; exact hac
  have c6 := hBc.cell 6
  have c7 := hBc.cell 7
  have c15 := hBc.cell 15
  have f7 := hBc.frozen 7
  replace hBc := Lib.hid hBc
  replace hac := Lib.hid hac
  replace hT := Lib.hid hT
  replace hS := Lib.hid hS
  replace hne := Lib.hid hne
  go_enter Tryz.func14, Tryz.ntmps14
  go_wp2_with fail
  refine gen_world (α := fun W' => _) (fun W' => Blk W' b 97 #[.int .i64 c.cap, .int .i64 c.pins, .int .i64 c.shelves, .int .i64 c.queue, .int .i64 c.watchers, .int .u64 c.seed, .int .i64 4, .int .i64 ac, pv, .int .i64 pp, .int .u64 pe, .bool pt, .int .i64 sh, .int .u64 blk, .string key, .pointer (some ⟨rb, 0, none⟩), sv, .int .i64 code, .int .i64 0, .int .i64 0, .bool false, .string ⟨#[]⟩, ov, .int .i64 0, .slice none 0 0, .int .i64 mark, .int .u64 0] ∧ Blk W' w.heap.size 52 #[.int .u64 gw, .string gt] ∧ Chg (fun k => k = b) w W') ⟨?_, ?_, ?_⟩ ?_
  · refine Blk.eq_cs (cs := ((#[.int .i64 c.cap, .int .i64 c.pins, .int .i64 c.shelves, .int .i64 c.queue, .int .i64 c.watchers, .int .u64 c.seed, .int .i64 4, .int .i64 acts, pv, .int .i64 pp, .int .u64 pe, .bool pt, .int .i64 sh, .int .u64 blk, .string key, .pointer (some ⟨rb, 0, none⟩), sv, .int .i64 code, .int .i64 0, .int .i64 0, .bool false, .string ⟨#[]⟩, ov, .int .i64 0, .slice none 0 0, .int .i64 mark, .int .u64 0] : Array Value).setIfInBounds 7 (.int .i64 ac))) ?_ rfl
    have hB := hBc.out
    (repeat first | with_reducible exact hB | with_reducible refine Blk.drewN ?_ _ | with_reducible refine Blk.drew ?_ | with_reducible refine Blk.alloc ?_ _ | with_reducible refine Blk.set_ ?_ _ _ | refine Blk.far ?_ (by simp; omega) _)
  · have hN0 := Blk.new (w.setCell ⟨b, 7, none⟩ (.int .i64 ac)) 52 #[.int .u64 gw, .string gt]
    rw [size_setCell] at hN0
    exact hN0
  · have hC := Chg.refl (fun k => k = b) w
    repeat first | with_reducible exact hC | with_reducible refine Chg.drew ?_ | with_reducible refine Chg.drewN ?_ _ | with_reducible refine Chg.alloc ?_ _ | refine Chg.setCell ?_ (by left; rfl) _
  rintro W' ⟨g1, g0, g2⟩
  have hs := g2.size
  have hltw := g1.lt
  have u0 := g0.cell 0
  have u1 := g0.cell 1
  have hltk := g0.lt
  have v6 := g1.cell 6
  have v15 := g1.cell 15
  have hTw := hT.out W'.drew (g2.block rb hrb hne1)
  clear c6 c7 c15 f7
  replace g1 := Lib.hid g1
  replace g2 := Lib.hid g2
  replace g0 := Lib.hid g0
  replace hTw := Lib.hid hTw
  go_wp2_with fail
  go_region_with (go_at_call 53; refine (hTw.out).mono ?_; rintro x w2 ⟨rfl, hp, hC2⟩; have hBw := Blk.keep (w := W') (w' := w2) g1.out (hC2.block b hltw hne2); have hC3 : Chg (fun k => k = rb ∨ k = b) w w2 := (g2.out.drew.mono (fun i hi => Or.inr hi)).trans hC2 (fun i hi => Or.inl (Or.inl hi)); have hSw := hS.out w2 hBw hp hC3; clear hC2; replace hBw := Lib.hid hBw; replace hC3 := Lib.hid hC3; replace hSw := Lib.hid hSw; replace hp := Lib.hid hp)
  all_goals
    go_wp2_with fail
    refine (hSw.out).mono ?_; rintro x w3 ⟨rfl, hq⟩
    replace hq := Lib.hid hq
    go_wp2_with fail
    first | exact bodyPost_end (v := .tuple #[]) (results_none (by kernel_rfl) _ _ _) rfl ⟨rfl, w2, hp.out, hBw.out, hC3.out, hq.out⟩ | exact bodyPost_ret (v := .tuple #[]) (results_none (by kernel_rfl) _ _ _) rfl ⟨rfl, w2, hp.out, hBw.out, hC3.out, hq.out⟩
set_option maxRecDepth 100000 in
set_option maxHeartbeats 4000000 in
theorem viewTake2N_any {w : World} {b : Nat} {c : PCfg} {acts pp pe sh blk code mark : Int} {pt : Bool} {key : ByteArray} {pv cv sv ov : Value} {gw : Int} {gt : ByteArray} (hBc : Blk w b 97 #[.int .i64 c.cap, .int .i64 c.pins, .int .i64 c.shelves, .int .i64 c.queue, .int .i64 c.watchers, .int .u64 c.seed, .int .i64 2, .int .i64 acts, pv, .int .i64 pp, .int .u64 pe, .bool pt, .int .i64 sh, .int .u64 blk, .string key, cv, sv, .int .i64 code, .int .i64 0, .int .i64 0, .bool false, .string ⟨#[]⟩, ov, .int .i64 0, .slice none 0 0, .int .i64 mark, .int .u64 0]) (hg : gw ≠ 0) :
    Calls Tryz.prog 14 #[.pointer (some ⟨b, 0, none⟩), .agg #[.int .u64 gw, .string gt]] w fun e w' => e = .returned (.tuple #[]) ∧ Blk w' b 97 #[.int .i64 c.cap, .int .i64 c.pins, .int .i64 c.shelves, .int .i64 c.queue, .int .i64 c.watchers, .int .u64 c.seed, .int .i64 3, .int .i64 (IntKind.i64.wrap (acts + 1)), pv, .int .i64 pp, .int .u64 pe, .bool pt, .int .i64 sh, .int .u64 gw, .string key, cv, sv, .int .i64 code, .int .i64 0, .int .i64 0, .bool false, .string ⟨#[]⟩, ov, .int .i64 0, .slice none 0 0, .int .i64 mark, .int .u64 0] ∧ Chg (fun k => k = b) w w' := by
  have hlt := hBc.lt
  generalize hac : IntKind.i64.wrap (acts + 1) = ac at *
  have hac2 : wrap64 (acts + 1) = ac := by rw [← IntWalk.i64_left]; exact hac
  have d1 : (gw == 0) = false := by simp [hg]
  have c6 := hBc.cell 6
  have c7 := hBc.cell 7
  have c13 := hBc.cell 13
  have f6 := hBc.frozen 6
  have f7 := hBc.frozen 7
  have f13 := hBc.frozen 13
  replace hBc := Lib.hid hBc
  replace hac := Lib.hid hac
  replace hg := Lib.hid hg
  go_enter Tryz.func14, Tryz.ntmps14
  go_wp2_with fail
  refine gen_world (α := fun W' => bodyPost _ _ _ _ _ W') (fun W' => Blk W' b 97 #[.int .i64 c.cap, .int .i64 c.pins, .int .i64 c.shelves, .int .i64 c.queue, .int .i64 c.watchers, .int .u64 c.seed, .int .i64 3, .int .i64 ac, pv, .int .i64 pp, .int .u64 pe, .bool pt, .int .i64 sh, .int .u64 gw, .string key, cv, sv, .int .i64 code, .int .i64 0, .int .i64 0, .bool false, .string ⟨#[]⟩, ov, .int .i64 0, .slice none 0 0, .int .i64 mark, .int .u64 0] ∧ Chg (fun k => k = b) w W') ⟨?_, ?_⟩ ?_
  · refine Blk.eq_cs (cs := ((((#[.int .i64 c.cap, .int .i64 c.pins, .int .i64 c.shelves, .int .i64 c.queue, .int .i64 c.watchers, .int .u64 c.seed, .int .i64 2, .int .i64 acts, pv, .int .i64 pp, .int .u64 pe, .bool pt, .int .i64 sh, .int .u64 blk, .string key, cv, sv, .int .i64 code, .int .i64 0, .int .i64 0, .bool false, .string ⟨#[]⟩, ov, .int .i64 0, .slice none 0 0, .int .i64 mark, .int .u64 0] : Array Value).setIfInBounds 7 (.int .i64 ac)).setIfInBounds 13 (.int .u64 gw)).setIfInBounds 6 (.int .i64 3))) ?_ (by kernel_rfl)
    have hB := hBc.out
    (repeat first | with_reducible exact hB | with_reducible refine Blk.drewN ?_ _ | with_reducible refine Blk.drew ?_ | with_reducible refine Blk.alloc ?_ _ | with_reducible refine Blk.set_ ?_ _ _ | refine Blk.far ?_ (by simp; omega) _)
  · have hC := Chg.refl (fun k => k = b) w
    repeat first | with_reducible exact hC | with_reducible refine Chg.drew ?_ | with_reducible refine Chg.drewN ?_ _ | with_reducible refine Chg.alloc ?_ _ | refine Chg.setCell ?_ (by left; rfl) _
  rintro W' ⟨g1, g2⟩
  first | exact bodyPost_end (v := .tuple #[]) (results_none (by kernel_rfl) _ _ _) rfl ⟨rfl, g1, g2⟩ | exact bodyPost_ret (v := .tuple #[]) (results_none (by kernel_rfl) _ _ _) rfl ⟨rfl, g1, g2⟩
set_option maxRecDepth 100000 in
set_option maxHeartbeats 4000000 in
theorem viewTake2Z_any {w : World} {b : Nat} {c : PCfg} {acts pp pe sh blk code mark : Int} {pt : Bool} {key : ByteArray} {pv cv sv ov : Value} {gt : ByteArray} (hBc : Blk w b 97 #[.int .i64 c.cap, .int .i64 c.pins, .int .i64 c.shelves, .int .i64 c.queue, .int .i64 c.watchers, .int .u64 c.seed, .int .i64 2, .int .i64 acts, pv, .int .i64 pp, .int .u64 pe, .bool pt, .int .i64 sh, .int .u64 blk, .string key, cv, sv, .int .i64 code, .int .i64 0, .int .i64 0, .bool false, .string ⟨#[]⟩, ov, .int .i64 0, .slice none 0 0, .int .i64 mark, .int .u64 0]) (hsh : 0 ≤ sh ∧ sh ≤ 1000) {np q : Int} (hnp : (if sh + 1 = c.shelves then (5 : Int) else 2) = np) (hq : sh + 1 = q) :
    Calls Tryz.prog 14 #[.pointer (some ⟨b, 0, none⟩), .agg #[.int .u64 0, .string gt]] w fun e w' => e = .returned (.tuple #[]) ∧ Blk w' b 97 #[.int .i64 c.cap, .int .i64 c.pins, .int .i64 c.shelves, .int .i64 c.queue, .int .i64 c.watchers, .int .u64 c.seed, .int .i64 np, .int .i64 (IntKind.i64.wrap (acts + 1)), pv, .int .i64 pp, .int .u64 pe, .bool pt, .int .i64 q, .int .u64 0, .string key, cv, sv, .int .i64 code, .int .i64 0, .int .i64 0, .bool false, .string ⟨#[]⟩, ov, .int .i64 0, .slice none 0 0, .int .i64 mark, .int .u64 0] ∧ Chg (fun k => k = b) w w' := by
  have hlt := hBc.lt
  generalize hac : IntKind.i64.wrap (acts + 1) = ac at *
  have hac2 : wrap64 (acts + 1) = ac := by rw [← IntWalk.i64_left]; exact hac
  have c6 := hBc.cell 6
  have c7 := hBc.cell 7
  have c13 := hBc.cell 13
  have f6 := hBc.frozen 6
  have f7 := hBc.frozen 7
  have f13 := hBc.frozen 13
  replace hBc := Lib.hid hBc
  replace hac := Lib.hid hac
  replace hnp := Lib.hid hnp
  replace hq := Lib.hid hq
  replace hsh := Lib.hid hsh
  go_enter Tryz.func14, Tryz.ntmps14
  go_upto_region 10 with fail
  refine gen_world (α := fun W' => Code.wp _ _ _ _ W') (fun W' => Blk W' b 97 #[.int .i64 c.cap, .int .i64 c.pins, .int .i64 c.shelves, .int .i64 c.queue, .int .i64 c.watchers, .int .u64 c.seed, .int .i64 3, .int .i64 ac, pv, .int .i64 pp, .int .u64 pe, .bool pt, .int .i64 sh, .int .u64 0, .string key, cv, sv, .int .i64 code, .int .i64 0, .int .i64 0, .bool false, .string ⟨#[]⟩, ov, .int .i64 0, .slice none 0 0, .int .i64 mark, .int .u64 0] ∧ Chg (fun k => k = b) w W') ⟨?_, ?_⟩ ?_
  · refine Blk.eq_cs (cs := ((((#[.int .i64 c.cap, .int .i64 c.pins, .int .i64 c.shelves, .int .i64 c.queue, .int .i64 c.watchers, .int .u64 c.seed, .int .i64 2, .int .i64 acts, pv, .int .i64 pp, .int .u64 pe, .bool pt, .int .i64 sh, .int .u64 blk, .string key, cv, sv, .int .i64 code, .int .i64 0, .int .i64 0, .bool false, .string ⟨#[]⟩, ov, .int .i64 0, .slice none 0 0, .int .i64 mark, .int .u64 0] : Array Value).setIfInBounds 7 (.int .i64 ac)).setIfInBounds 13 (.int .u64 0)).setIfInBounds 6 (.int .i64 3))) ?_ (by kernel_rfl)
    have hB := hBc.out
    (repeat first | with_reducible exact hB | with_reducible refine Blk.drewN ?_ _ | with_reducible refine Blk.drew ?_ | with_reducible refine Blk.alloc ?_ _ | with_reducible refine Blk.set_ ?_ _ _ | refine Blk.far ?_ (by simp; omega) _)
  · have hC := Chg.refl (fun k => k = b) w
    repeat first | with_reducible exact hC | with_reducible refine Chg.drew ?_ | with_reducible refine Chg.drewN ?_ _ | with_reducible refine Chg.alloc ?_ _ | refine Chg.setCell ?_ (by left; rfl) _
  rintro W' ⟨g1, g2⟩
  have hN := viewNext_any g1 hsh.out
  rw [hnp.out, hq.out] at hN
  clear c6 c7 c13 f6 f7 f13
  replace g1 := Lib.hid g1
  replace g2 := Lib.hid g2
  replace hN := Lib.hid hN
  go_wp2_with fail
  refine (hN.out).mono ?_; rintro x w3 ⟨rfl, hB3, hC3⟩
  replace hB3 := Lib.hid hB3
  replace hC3 := Lib.hid hC3
  go_wp2_with fail
  first | exact bodyPost_end (v := .tuple #[]) (results_none (by kernel_rfl) _ _ _) rfl ⟨rfl, hB3.out, g2.out.trans hC3.out fun i hi => Or.inl hi⟩ | exact bodyPost_ret (v := .tuple #[]) (results_none (by kernel_rfl) _ _ _) rfl ⟨rfl, hB3.out, g2.out.trans hC3.out fun i hi => Or.inl hi⟩
set_option maxRecDepth 100000 in
set_option maxHeartbeats 4000000 in
theorem viewTake3_any {w : World} {b : Nat} {c : PCfg} {acts pp pe sh blk code mark : Int} {pt : Bool} {key : ByteArray} {pv cv sv ov : Value} {gw : Int} {gt : ByteArray} (hBc : Blk w b 97 #[.int .i64 c.cap, .int .i64 c.pins, .int .i64 c.shelves, .int .i64 c.queue, .int .i64 c.watchers, .int .u64 c.seed, .int .i64 3, .int .i64 acts, pv, .int .i64 pp, .int .u64 pe, .bool pt, .int .i64 sh, .int .u64 blk, .string key, cv, sv, .int .i64 code, .int .i64 0, .int .i64 0, .bool false, .string ⟨#[]⟩, ov, .int .i64 0, .slice none 0 0, .int .i64 mark, .int .u64 0]) (hc : c.Right) (hsh : 0 ≤ sh ∧ sh < c.shelves) (hpe : 0 ≤ pe ∧ pe ≤ 18446744073709551615) :
    Calls Tryz.prog 14 #[.pointer (some ⟨b, 0, none⟩), .agg #[.int .u64 gw, .string gt]] w fun e w' => e = .returned (.tuple #[]) ∧ ∃ cb, Blk w' b 97 #[.int .i64 c.cap, .int .i64 c.pins, .int .i64 c.shelves, .int .i64 c.queue, .int .i64 c.watchers, .int .u64 c.seed, .int .i64 4, .int .i64 (IntKind.i64.wrap (acts + 1)), pv, .int .i64 pp, .int .u64 pe, .bool pt, .int .i64 sh, .int .u64 blk, .string gt, .pointer (some ⟨cb, 0, none⟩), sv, .int .i64 code, .int .i64 0, .int .i64 0, .bool false, .string ⟨#[]⟩, ov, .int .i64 0, .slice none 0 0, .int .i64 mark, .int .u64 0] ∧ ChainIn w' cb (newChain (3 + c.pins + c.cap + 2 * sh + 1) pe) ∧ w.heap.size ≤ cb ∧ Chg (fun k => k = b) w w' := by
  have hN := fun W => chainNew_any c hc sh hsh pe hpe W
  rw [show c.val = .agg #[.int .i64 c.cap, .int .i64 c.pins, .int .i64 c.shelves, .int .i64 c.queue, .int .i64 c.watchers, .int .u64 c.seed] from rfl] at hN
  generalize newChain (3 + c.pins + c.cap + 2 * sh + 1) pe = NC at *
  clear hc hsh hpe
  have hlt := hBc.lt
  generalize hac : IntKind.i64.wrap (acts + 1) = ac at *
  have hac2 : wrap64 (acts + 1) = ac := by rw [← IntWalk.i64_left]; exact hac
  have c6 := hBc.cell 6
  have c7 := hBc.cell 7
  have c14 := hBc.cell 14
  have f6 := hBc.frozen 6
  have f7 := hBc.frozen 7
  have f14 := hBc.frozen 14
  replace hBc := Lib.hid hBc
  replace hac := Lib.hid hac
  replace hN := Lib.hid hN
  go_enter Tryz.func14, Tryz.ntmps14
  go_upto_region 13 with fail
  refine gen_world (α := fun W' => Code.wp _ _ _ _ W') (fun W' => Blk W' b 97 #[.int .i64 c.cap, .int .i64 c.pins, .int .i64 c.shelves, .int .i64 c.queue, .int .i64 c.watchers, .int .u64 c.seed, .int .i64 4, .int .i64 ac, pv, .int .i64 pp, .int .u64 pe, .bool pt, .int .i64 sh, .int .u64 blk, .string gt, cv, sv, .int .i64 code, .int .i64 0, .int .i64 0, .bool false, .string ⟨#[]⟩, ov, .int .i64 0, .slice none 0 0, .int .i64 mark, .int .u64 0] ∧ Chg (fun k => k = b) w W') ⟨?_, ?_⟩ ?_
  · refine Blk.eq_cs (cs := ((((#[.int .i64 c.cap, .int .i64 c.pins, .int .i64 c.shelves, .int .i64 c.queue, .int .i64 c.watchers, .int .u64 c.seed, .int .i64 3, .int .i64 acts, pv, .int .i64 pp, .int .u64 pe, .bool pt, .int .i64 sh, .int .u64 blk, .string key, cv, sv, .int .i64 code, .int .i64 0, .int .i64 0, .bool false, .string ⟨#[]⟩, ov, .int .i64 0, .slice none 0 0, .int .i64 mark, .int .u64 0] : Array Value).setIfInBounds 7 (.int .i64 ac)).setIfInBounds 14 (.string gt)).setIfInBounds 6 (.int .i64 4))) ?_ (by kernel_rfl)
    have hB := hBc.out
    (repeat first | with_reducible exact hB | with_reducible refine Blk.drewN ?_ _ | with_reducible refine Blk.drew ?_ | with_reducible refine Blk.alloc ?_ _ | with_reducible refine Blk.set_ ?_ _ _ | refine Blk.far ?_ (by simp; omega) _)
  · have hC := Chg.refl (fun k => k = b) w
    repeat first | with_reducible exact hC | with_reducible refine Chg.drew ?_ | with_reducible refine Chg.drewN ?_ _ | with_reducible refine Chg.alloc ?_ _ | refine Chg.setCell ?_ (by left; rfl) _
  rintro W' ⟨g1, g2⟩
  have hs := g2.size
  have hltw := g1.lt
  have hS0 : (fun W' : World => W'.cell? ⟨b, 0, none⟩ = some (.int .i64 c.cap) ∧ W'.cell? ⟨b, 1, none⟩ = some (.int .i64 c.pins) ∧ W'.cell? ⟨b, 2, none⟩ = some (.int .i64 c.shelves) ∧ W'.cell? ⟨b, 3, none⟩ = some (.int .i64 c.queue) ∧ W'.cell? ⟨b, 4, none⟩ = some (.int .i64 c.watchers) ∧ W'.cell? ⟨b, 5, none⟩ = some (.int .u64 c.seed) ∧ W'.cell? ⟨b, 12, none⟩ = some (.int .i64 sh) ∧ W'.cell? ⟨b, 10, none⟩ = some (.int .u64 pe)) W'.drew := ⟨g1.cell 0, g1.cell 1, g1.cell 2, g1.cell 3, g1.cell 4, g1.cell 5, g1.cell 12, g1.cell 10⟩
  clear c6 c7 c14 f6 f7 f14
  replace g1 := Lib.hid g1
  replace g2 := Lib.hid g2
  replace hS0 := Lib.hid hS0
  refine wp_region_lex [(true, 0), (true, 1), (true, 2), (true, 3), (true, 4), (true, 5), (true, 6), (true, 7), (true, 8), (true, 9), (true, 10), (true, 11), (true, 12), (true, 13), (false, 14), (true, 15), (true, 16), (false, 17)] (fun W' => W'.cell? ⟨b, 0, none⟩ = some (.int .i64 c.cap) ∧ W'.cell? ⟨b, 1, none⟩ = some (.int .i64 c.pins) ∧ W'.cell? ⟨b, 2, none⟩ = some (.int .i64 c.shelves) ∧ W'.cell? ⟨b, 3, none⟩ = some (.int .i64 c.queue) ∧ W'.cell? ⟨b, 4, none⟩ = some (.int .i64 c.watchers) ∧ W'.cell? ⟨b, 5, none⟩ = some (.int .u64 c.seed) ∧ W'.cell? ⟨b, 12, none⟩ = some (.int .i64 sh) ∧ W'.cell? ⟨b, 10, none⟩ = some (.int .u64 pe)) (by kernel_rfl) (by kernel_rfl) (fun R hR => ?_)
  have hHeld := hS0.out
  repeat (refine lex_take (v := ?_) rfl (by rfl) (by assumption) ?_ ?_; rotate_left 1; (focus (intro w hSw; (try dsimp only at hSw); go_simp; (try with_reducible rfl))); (try simp only [Act.put, List.setIfInBounds_toArray, List.set_cons_zero, List.set_cons_succ]))
  (refine lex_call rfl (by rfl) (fun K hq => ?_); go_simp)
  go_at_call 52; refine (hN.out _).mono ?_; rintro x w2 ⟨cb, rfl, hV, hcb, hb2⟩
  have hBw := Blk.below (w := W'.drew) g1.out hb2 hltw
  have hC2 : Chg (fun k => k = b) w w2 := g2.out.drew.next_ hb2
  have y15 := hBw.cell 15
  have yf15 := hBw.frozen 15
  have hltw2 := hBw.lt
  clear hHeld
  have hHeld : (fun W' : World => W'.cell? ⟨b, 0, none⟩ = some (.int .i64 c.cap) ∧ W'.cell? ⟨b, 1, none⟩ = some (.int .i64 c.pins) ∧ W'.cell? ⟨b, 2, none⟩ = some (.int .i64 c.shelves) ∧ W'.cell? ⟨b, 3, none⟩ = some (.int .i64 c.queue) ∧ W'.cell? ⟨b, 4, none⟩ = some (.int .i64 c.watchers) ∧ W'.cell? ⟨b, 5, none⟩ = some (.int .u64 c.seed) ∧ W'.cell? ⟨b, 12, none⟩ = some (.int .i64 sh) ∧ W'.cell? ⟨b, 10, none⟩ = some (.int .u64 pe)) w2 := ⟨hBw.cell 0, hBw.cell 1, hBw.cell 2, hBw.cell 3, hBw.cell 4, hBw.cell 5, hBw.cell 12, hBw.cell 10⟩
  clear hb2
  replace hBw := Lib.hid hBw
  replace hC2 := Lib.hid hC2
  replace hV := Lib.hid hV
  (refine hq.out _ _ _ (fun _ h => h) hHeld ?_; clear hq K; (try simp only [Act.put, List.setIfInBounds_toArray, List.set_cons_zero, List.set_cons_succ]))
  repeat (refine lex_take (v := ?_) rfl (by rfl) (by assumption) ?_ ?_; rotate_left 1; (focus (intro w hSw; (try dsimp only at hSw); go_simp; (try with_reducible rfl))); (try simp only [Act.put, List.setIfInBounds_toArray, List.set_cons_zero, List.set_cons_succ]))
  (refine lex_call rfl (by rfl) (fun K hq => ?_); go_simp)
  have hB5 : Blk (w2.setCell ⟨b, 15, none⟩ (.pointer (some ⟨cb, 0, none⟩))) b 97 #[.int .i64 c.cap, .int .i64 c.pins, .int .i64 c.shelves, .int .i64 c.queue, .int .i64 c.watchers, .int .u64 c.seed, .int .i64 4, .int .i64 ac, pv, .int .i64 pp, .int .u64 pe, .bool pt, .int .i64 sh, .int .u64 blk, .string gt, .pointer (some ⟨cb, 0, none⟩), sv, .int .i64 code, .int .i64 0, .int .i64 0, .bool false, .string ⟨#[]⟩, ov, .int .i64 0, .slice none 0 0, .int .i64 mark, .int .u64 0] := Blk.eq_cs (hBw.out.set_ 15 _) (by kernel_rfl)
  clear hHeld
  have hHeld : (fun W' : World => W'.cell? ⟨b, 0, none⟩ = some (.int .i64 c.cap) ∧ W'.cell? ⟨b, 1, none⟩ = some (.int .i64 c.pins) ∧ W'.cell? ⟨b, 2, none⟩ = some (.int .i64 c.shelves) ∧ W'.cell? ⟨b, 3, none⟩ = some (.int .i64 c.queue) ∧ W'.cell? ⟨b, 4, none⟩ = some (.int .i64 c.watchers) ∧ W'.cell? ⟨b, 5, none⟩ = some (.int .u64 c.seed) ∧ W'.cell? ⟨b, 12, none⟩ = some (.int .i64 sh) ∧ W'.cell? ⟨b, 10, none⟩ = some (.int .u64 pe)) (w2.setCell ⟨b, 15, none⟩ (.pointer (some ⟨cb, 0, none⟩))) := ⟨hB5.cell 0, hB5.cell 1, hB5.cell 2, hB5.cell 3, hB5.cell 4, hB5.cell 5, hB5.cell 12, hB5.cell 10⟩
  (refine hq.out _ _ _ (fun _ h => h) hHeld ?_; clear hq K; (try simp only [Act.put, List.setIfInBounds_toArray, List.set_cons_zero, List.set_cons_succ]))
  refine lex_end (hR.out _ _ ?_)
  have hfin : Blk (w2.setCell ⟨b, 15, none⟩ (.pointer (some ⟨cb, 0, none⟩))) b 97 #[.int .i64 c.cap, .int .i64 c.pins, .int .i64 c.shelves, .int .i64 c.queue, .int .i64 c.watchers, .int .u64 c.seed, .int .i64 4, .int .i64 ac, pv, .int .i64 pp, .int .u64 pe, .bool pt, .int .i64 sh, .int .u64 blk, .string gt, .pointer (some ⟨cb, 0, none⟩), sv, .int .i64 code, .int .i64 0, .int .i64 0, .bool false, .string ⟨#[]⟩, ov, .int .i64 0, .slice none 0 0, .int .i64 mark, .int .u64 0] ∧ ChainIn (w2.setCell ⟨b, 15, none⟩ (.pointer (some ⟨cb, 0, none⟩))) cb NC ∧ w.heap.size ≤ cb ∧ Chg (fun k => k = b) w (w2.setCell ⟨b, 15, none⟩ (.pointer (some ⟨cb, 0, none⟩))) := by
    have hcb' : W'.heap.size ≤ cb := hcb
    exact ⟨hB5, hV.out.keep (Below.heap_setCell _ _ _ cb (by show cb ≠ b; omega)), by omega, Chg.setCell (p := ⟨b, 15, none⟩) hC2.out (.inl rfl) _⟩
  clear hR R hHeld
  replace hfin := Lib.hid hfin
  replace hB5 := Lib.hid hB5
  go_wp2_with fail
  first | exact bodyPost_end (v := .tuple #[]) (results_none (by kernel_rfl) _ _ _) rfl ⟨rfl, cb, hfin.out⟩ | exact bodyPost_ret (v := .tuple #[]) (results_none (by kernel_rfl) _ _ _) rfl ⟨rfl, cb, hfin.out⟩
set_option maxRecDepth 100000 in
set_option maxHeartbeats 4000000 in
theorem viewTake5_any {w : World} {b : Nat} {c : PCfg} {acts pp pe sh blk code mark : Int} {pt : Bool} {key : ByteArray} {pv cv ov : Value} {gw : Int} {gt : ByteArray} {mb : Nat} {seen : List (ByteArray × ByteArray)} (hBc : Blk w b 97 #[.int .i64 c.cap, .int .i64 c.pins, .int .i64 c.shelves, .int .i64 c.queue, .int .i64 c.watchers, .int .u64 c.seed, .int .i64 5, .int .i64 acts, pv, .int .i64 pp, .int .u64 pe, .bool pt, .int .i64 sh, .int .u64 blk, .string key, cv, (.map (some mb)), .int .i64 code, .int .i64 0, .int .i64 0, .bool false, .string ⟨#[]⟩, ov, .int .i64 0, .slice none 0 0, .int .i64 mark, .int .u64 0]) (hM : MapTs w mb (seenV seen)) (hn : (seen.map (·.1)).Nodup) (hl : seen.length ≤ 900) :
    Calls Tryz.prog 14 #[.pointer (some ⟨b, 0, none⟩), .agg #[.int .u64 gw, .string gt]] w fun e w' => e = .returned (.tuple #[]) ∧ ∃ v, Blk w' b 97 #[.int .i64 c.cap, .int .i64 c.pins, .int .i64 c.shelves, .int .i64 c.queue, .int .i64 c.watchers, .int .u64 c.seed, .int .i64 6, .int .i64 (IntKind.i64.wrap (acts + 1)), pv, .int .i64 pp, .int .u64 pe, .bool pt, .int .i64 sh, .int .u64 blk, .string key, cv, (.map (some mb)), .int .i64 code, .int .i64 0, .int .i64 0, .bool false, .string ⟨#[]⟩, v, .int .i64 0, .slice none 0 0, .int .i64 mark, .int .u64 0] ∧ w'.ownsRow w.heap.size 90 2 v (putAll [] seen).length (pairL (putAll [] seen)) ∧ Chg (fun k => k = b) w w' := by
  have hmb : mb ≠ b := fun e => by
    obtain ⟨es, cl, h2, _⟩ := hM.some_
    rw [e] at h2
    have h3 : w.heap[b]? = some (.cells _ _) := hBc
    rw [h2] at h3
    cases h3
  have hlt := hBc.lt
  generalize hac : IntKind.i64.wrap (acts + 1) = ac at *
  have hac2 : wrap64 (acts + 1) = ac := by rw [← IntWalk.i64_left]; exact hac
  have c6 := hBc.cell 6
  have c7 := hBc.cell 7
  have f6 := hBc.frozen 6
  have f7 := hBc.frozen 7
  replace hBc := Lib.hid hBc
  replace hac := Lib.hid hac
  replace hM := Lib.hid hM
  replace hn := Lib.hid hn
  replace hl := Lib.hid hl
  replace hmb := Lib.hid hmb
  go_enter Tryz.func14, Tryz.ntmps14
  go_upto_region 19 with fail
  refine gen_world (α := fun W' => Code.wp _ _ _ _ W') (fun W' => Blk W' b 97 #[.int .i64 c.cap, .int .i64 c.pins, .int .i64 c.shelves, .int .i64 c.queue, .int .i64 c.watchers, .int .u64 c.seed, .int .i64 6, .int .i64 ac, pv, .int .i64 pp, .int .u64 pe, .bool pt, .int .i64 sh, .int .u64 blk, .string key, cv, (.map (some mb)), .int .i64 code, .int .i64 0, .int .i64 0, .bool false, .string ⟨#[]⟩, ov, .int .i64 0, .slice none 0 0, .int .i64 mark, .int .u64 0] ∧ Chg (fun k => k = b) w W') ⟨?_, ?_⟩ ?_
  · refine Blk.eq_cs (cs := (((#[.int .i64 c.cap, .int .i64 c.pins, .int .i64 c.shelves, .int .i64 c.queue, .int .i64 c.watchers, .int .u64 c.seed, .int .i64 5, .int .i64 acts, pv, .int .i64 pp, .int .u64 pe, .bool pt, .int .i64 sh, .int .u64 blk, .string key, cv, (.map (some mb)), .int .i64 code, .int .i64 0, .int .i64 0, .bool false, .string ⟨#[]⟩, ov, .int .i64 0, .slice none 0 0, .int .i64 mark, .int .u64 0] : Array Value).setIfInBounds 7 (.int .i64 ac)).setIfInBounds 6 (.int .i64 6))) ?_ (by kernel_rfl)
    have hB := hBc.out
    (repeat first | with_reducible exact hB | with_reducible refine Blk.drewN ?_ _ | with_reducible refine Blk.drew ?_ | with_reducible refine Blk.alloc ?_ _ | with_reducible refine Blk.set_ ?_ _ _ | refine Blk.far ?_ (by simp; omega) _)
  · have hC := Chg.refl (fun k => k = b) w
    repeat first | with_reducible exact hC | with_reducible refine Chg.drew ?_ | with_reducible refine Chg.drewN ?_ _ | with_reducible refine Chg.alloc ?_ _ | refine Chg.setCell ?_ (by left; rfl) _
  rintro W' ⟨g1, g2⟩
  have hP := viewPairs_any (g1.cell 16) (hM.out.keep (g2.block mb hM.out.lt hmb.out)) hn.out hl.out
  have hs := g2.size
  have hltw := g1.lt
  clear c6 c7 f6 f7
  replace g1 := Lib.hid g1
  replace g2 := Lib.hid g2
  replace hP := Lib.hid hP
  go_wp2_with fail
  refine (hP.out).mono ?_; rintro e w2 ⟨v, rfl, hown, hb2⟩
  obtain ⟨⟨vA, vc, rfl⟩, hob⟩ := own_shape hown
  have hB2 := g1.out.below hb2 hltw
  have y22 := hB2.cell 22
  have yf22 := hB2.frozen 22
  have hlt2 := hB2.lt
  have hC2 := g2.out.next_ hb2
  generalize hP2 : putAll [] seen = P2 at *
  have hB3 : Blk (w2.setCell ⟨b, 22, none⟩ (.slice vA P2.length vc)) b 97 #[.int .i64 c.cap, .int .i64 c.pins, .int .i64 c.shelves, .int .i64 c.queue, .int .i64 c.watchers, .int .u64 c.seed, .int .i64 6, .int .i64 ac, pv, .int .i64 pp, .int .u64 pe, .bool pt, .int .i64 sh, .int .u64 blk, .string key, cv, (.map (some mb)), .int .i64 code, .int .i64 0, .int .i64 0, .bool false, .string ⟨#[]⟩, (.slice vA P2.length vc), .int .i64 0, .slice none 0 0, .int .i64 mark, .int .u64 0] := Blk.eq_cs (hB2.set_ 22 _) (by kernel_rfl)
  have hC3 : Chg (fun k => k = b) w (w2.setCell ⟨b, 22, none⟩ (.slice vA P2.length vc)) := Chg.setCell (p := ⟨b, 22, none⟩) hC2 (.inl rfl) _
  have ho3 : (w2.setCell ⟨b, 22, none⟩ (.slice vA P2.length vc)).ownsRow w.heap.size 90 2 (.slice vA P2.length vc) P2.length (pairL P2) := by
    refine ⟨hown.1, hown.2.imp id fun ⟨g, cap, cur, k1, k2, k3, k4⟩ => ⟨g, cap, cur, k1, by omega, (Below.heap_setCell _ _ _ _ (by show g ≠ b; omega)).trans k3, k4⟩⟩
  clear hb2 hP
  replace hB2 := Lib.hid hB2
  replace hC2 := Lib.hid hC2
  replace hB3 := Lib.hid hB3
  replace hC3 := Lib.hid hC3
  replace ho3 := Lib.hid ho3
  replace hown := Lib.hid hown
  replace hob := Lib.hid hob
  replace hP2 := Lib.hid hP2
  go_wp2_with fail
  first | exact bodyPost_end (v := .tuple #[]) (results_none (by kernel_rfl) _ _ _) rfl ⟨rfl, _, hB3.out, by rw [hP2.out]; exact ho3.out, hC3.out⟩ | exact bodyPost_ret (v := .tuple #[]) (results_none (by kernel_rfl) _ _ _) rfl ⟨rfl, _, hB3.out, by rw [hP2.out]; exact ho3.out, hC3.out⟩
end Go.Proofs.YtmlnhjfdhjachaaGreat

/-
  Viewing's answer, and how it is made (layer 27). No condition. (Printed by tools/vw.py.)
-/
namespace Go.Proofs.YtmlnhjfdhjachaaGreat
set_option linter.unusedVariables false
open Go.ChangeShapes Go.WideShapes Go.ChangeAt Go.RowKit
open Go.ChangeMaps (setBlock)

theorem pairs_own_cells2 {W W' : World} {base n : Nat} {v : Value} {xs : List Value} (h : W.ownsRow base 90 2 v n xs) (hk : ∀ (g : Nat) (cur : Array Value), W.heap[g]? = some (Obj.cells cur 90) → W'.heap[g]? = W.heap[g]?) : W'.ownsRow base 90 2 v n xs :=
  ⟨h.1, h.2.imp id fun ⟨g, cap, cur, e1, e2, e3, r⟩ => ⟨g, cap, cur, e1, e2, (hk g cur e3).trans e3, r⟩⟩
theorem pairL_one (m : List (ByteArray × ByteArray)) : ∀ u ∈ pairL m, u.oneCell' = true := fun u hu => by
  unfold pairL at hu
  obtain ⟨p, _, hp⟩ := List.mem_flatMap.1 hu
  unfold pairC at hp
  rcases List.mem_cons.1 hp with rfl | hp
  · rfl
  · rw [List.mem_singleton] at hp
    rw [hp]; rfl
set_option maxRecDepth 100000 in
set_option maxHeartbeats 4000000 in
theorem viewResult_no {w : World} {b : Nat} {c : PCfg} {part acts pp pe sh blk code mark : Int} {pt : Bool} {key : ByteArray} {pv cv sv ov : Value} (hBc : Blk w b 97 #[.int .i64 c.cap, .int .i64 c.pins, .int .i64 c.shelves, .int .i64 c.queue, .int .i64 c.watchers, .int .u64 c.seed, .int .i64 part, .int .i64 acts, pv, .int .i64 pp, .int .u64 pe, .bool pt, .int .i64 sh, .int .u64 blk, .string key, cv, sv, .int .i64 code, .int .i64 0, .int .i64 0, .bool false, .string ⟨#[]⟩, ov, .int .i64 0, .slice none 0 0, .int .i64 mark, .int .u64 0]) (hp : part ≠ 6) :
    Calls Tryz.prog 11 #[.pointer (some ⟨b, 0, none⟩)] w fun e w' => e = .returned (.tuple #[.agg #[.int .i64 0, .int .i64 0, .int .i64 0, .bool false, .string ⟨#[]⟩, .slice none 0 0, .int .i64 0, .slice none 0 0, .int .i64 0, .int .u64 0], .bool false]) ∧ Below w.heap.size w w' := by
  have hlt := hBc.lt
  have c6 := hBc.cell 6
  have d1 : (part == 6) = false := by simp [hp]
  replace hBc := Lib.hid hBc
  replace hp := Lib.hid hp
  go_enter Tryz.func11, Tryz.ntmps11
  go_wp2_with fail
  refine bodyPost_ret (v := .tuple #[.agg #[.int .i64 0, .int .i64 0, .int .i64 0, .bool false, .string ⟨#[]⟩, .slice none 0 0, .int .i64 0, .slice none 0 0, .int .i64 0, .int .u64 0], .bool false]) (by simp [results, Tryz.results11, go_sem]) rfl ⟨rfl, ?_⟩
  (repeat first | exact Below.refl _ _ | assumption | refine Below.drew ?_ | refine below_drewN ?_ _ | refine Below.more_ ?_ _ | refine Below.setCell ?_ (by first | exact Nat.le_refl _ | (simp; done) | (simp; omega)) _)
set_option maxRecDepth 100000 in
set_option maxHeartbeats 4000000 in
theorem viewResult_any {w : World} {b : Nat} {c : PCfg} {acts pp pe sh blk code mark : Int} {pt : Bool} {key : ByteArray} {pv cv sv : Value} {A : Option Addr} {n cap : Nat} {m : List (ByteArray × ByteArray)} (hBc : Blk w b 97 #[.int .i64 c.cap, .int .i64 c.pins, .int .i64 c.shelves, .int .i64 c.queue, .int .i64 c.watchers, .int .u64 c.seed, .int .i64 6, .int .i64 acts, pv, .int .i64 pp, .int .u64 pe, .bool pt, .int .i64 sh, .int .u64 blk, .string key, cv, sv, .int .i64 code, .int .i64 0, .int .i64 0, .bool false, .string ⟨#[]⟩, (.slice A n cap), .int .i64 0, .slice none 0 0, .int .i64 mark, .int .u64 0]) (hlen : m.length = n) (hn : n ≤ 1000) (hr : Reads w w.heap.size 2 A n (pairL m)) :
    Calls Tryz.prog 11 #[.pointer (some ⟨b, 0, none⟩)] w fun e w' => ∃ vA vc, e = .returned (.tuple #[.agg #[.int .i64 code, .int .i64 0, .int .i64 0, .bool false, .string ⟨#[]⟩, .slice vA n vc, .int .i64 0, .slice none 0 0, .int .i64 mark, .int .u64 0], .bool true]) ∧ w'.ownsRow w.heap.size 90 2 (.slice vA n vc) n (pairL m) ∧ Below w.heap.size w w' := by
  obtain ⟨i0, hi, hz0, hz1, hz2⟩ : ∃ i, Tryz.prog.info? 90 = some i ∧ i.zero = some (.agg #[.string ⟨#[]⟩, .string ⟨#[]⟩]) ∧ i.size = 2 ∧ i.bytes = 32 := ⟨_, rfl, rfl, rfl, rfl⟩
  have hlt := hBc.lt
  have c6 := hBc.cell 6
  have c17 := hBc.cell 17
  have c18 := hBc.cell 18
  have c19 := hBc.cell 19
  have c20 := hBc.cell 20
  have c21 := hBc.cell 21
  have c22 := hBc.cell 22
  have c23 := hBc.cell 23
  have c24 := hBc.cell 24
  have c25 := hBc.cell 25
  have c26 := hBc.cell 26
  have hb0 : Below w.heap.size w ((w.alloc (.cells #[.int .i64 0, .int .i64 0, .int .i64 0, .bool false, .string ⟨#[]⟩, .slice none 0 0, .int .i64 0, .slice none 0 0, .int .i64 0, .int .u64 0] 42)).alloc (.cells #[.int .i64 code, .int .i64 0, .int .i64 0, .bool false, .string ⟨#[]⟩, .slice A n cap, .int .i64 0, .slice none 0 0, .int .i64 mark, .int .u64 0] 42)) := Below.more_ (Below.more_ (Below.refl _ _) _) _
  have R0 := (Blk.new w 42 #[.int .i64 0, .int .i64 0, .int .i64 0, .bool false, .string ⟨#[]⟩, .slice none 0 0, .int .i64 0, .slice none 0 0, .int .i64 0, .int .u64 0]).alloc (.cells #[.int .i64 code, .int .i64 0, .int .i64 0, .bool false, .string ⟨#[]⟩, .slice A n cap, .int .i64 0, .slice none 0 0, .int .i64 mark, .int .u64 0] 42)
  have R1 := Blk.new (w.alloc (.cells #[.int .i64 0, .int .i64 0, .int .i64 0, .bool false, .string ⟨#[]⟩, .slice none 0 0, .int .i64 0, .slice none 0 0, .int .i64 0, .int .u64 0] 42)) 42 #[.int .i64 code, .int .i64 0, .int .i64 0, .bool false, .string ⟨#[]⟩, .slice A n cap, .int .i64 0, .slice none 0 0, .int .i64 mark, .int .u64 0]
  rw [World.size_alloc] at R1
  have hr2 := hr.below hb0
  replace hBc := Lib.hid hBc
  replace hb0 := Lib.hid hb0
  replace R0 := Lib.hid R0
  replace R1 := Lib.hid R1
  replace hr := Lib.hid hr
  replace hr2 := Lib.hid hr2
  replace hlen := Lib.hid hlen
  replace hn := Lib.hid hn
  go_enter Tryz.func11, Tryz.ntmps11
  go_wp2_with (at_builtin; go_loud (refine wpList_append_any _ rfl _ _ 37 rfl w.heap.size 90 i0 (.agg #[.string ⟨#[]⟩, .string ⟨#[]⟩]) 2 32 Tryz.underlying37 hi hz0 hz1 hz2 rfl (by decide) _ _ _ rfl (World.ownsRow_nil _ _ _ _) w.heap.size A n cap (pairL m) rfl hr2.out (pairL_one m) (by have := hn.out; unfold maxLen; omega) (by have := hn.out; omega) (by simp; omega) ?_; intro v' w6 hown6 hgrow hloc; simp only [Nat.zero_add, List.nil_append] at hown6; obtain ⟨⟨vA, vc, rfl⟩, hob⟩ := own_shape hown6; have R6 := Blk.grown R0.out hgrow (fun e => by cases e); have R7 := Blk.grown R1.out hgrow (fun e => by cases e); have hb6 : Below w.heap.size w w6 := Below.next_ hb0.out ⟨hgrow.os, hgrow.tape, hgrow.output, hgrow.size, fun k hk => hgrow.block k hk (fun e => by cases e)⟩; clear hgrow hloc hob; have x0 := R7.cell 0; have x1 := R7.cell 1; have x2 := R7.cell 2; have x3 := R7.cell 3; have x4 := R7.cell 4; have x5 := R7.cell 5; have x6 := R7.cell 6; have x7 := R7.cell 7; have x8 := R7.cell 8; have x9 := R7.cell 9; have xf5 := R7.frozen 5; have hl7 := R7.lt; have hl6 := R6.lt; have z0 := R6.cell 0; have zf0 := R6.frozen 0; have z1 := R6.cell 1; have zf1 := R6.frozen 1; have z2 := R6.cell 2; have zf2 := R6.frozen 2; have z3 := R6.cell 3; have zf3 := R6.frozen 3; have z4 := R6.cell 4; have zf4 := R6.frozen 4; have z5 := R6.cell 5; have zf5 := R6.frozen 5; have z6 := R6.cell 6; have zf6 := R6.frozen 6; have z7 := R6.cell 7; have zf7 := R6.frozen 7; have z8 := R6.cell 8; have zf8 := R6.frozen 8; have z9 := R6.cell 9; have zf9 := R6.frozen 9; replace R6 := Lib.hid R6; replace R7 := Lib.hid R7; replace hb6 := Lib.hid hb6; replace hown6 := Lib.hid hown6))
  refine gen_world (α := fun W' => bodyPost _ _ _ _ _ W') (fun W' => Blk W' w.heap.size 42 #[.int .i64 code, .int .i64 0, .int .i64 0, .bool false, .string ⟨#[]⟩, .slice vA n vc, .int .i64 0, .slice none 0 0, .int .i64 mark, .int .u64 0] ∧ W'.ownsRow w.heap.size 90 2 (.slice vA n vc) n (pairL m) ∧ Below w.heap.size w W') ⟨?_, ?_, ?_⟩ ?_
  · refine Blk.eq_cs (cs := (((((((((((#[.int .i64 0, .int .i64 0, .int .i64 0, .bool false, .string ⟨#[]⟩, .slice none 0 0, .int .i64 0, .slice none 0 0, .int .i64 0, .int .u64 0] : Array Value).setIfInBounds 0 (.int .i64 code)).setIfInBounds 1 (.int .i64 0)).setIfInBounds 2 (.int .i64 0)).setIfInBounds 3 (.bool false)).setIfInBounds 4 (.string ⟨#[]⟩)).setIfInBounds 5 (.slice vA n vc)).setIfInBounds 6 (.int .i64 0)).setIfInBounds 7 (.slice none 0 0)).setIfInBounds 8 (.int .i64 mark)).setIfInBounds 9 (.int .u64 0))) ?_ (by kernel_rfl)
    have hB := Blk.far (p := ⟨w.heap.size + 1, 5, none⟩) R6.out (by show w.heap.size ≠ w.heap.size + 1; omega) (.slice vA n vc)
    (repeat first | with_reducible exact hB | with_reducible refine Blk.drewN ?_ _ | with_reducible refine Blk.drew ?_ | with_reducible refine Blk.alloc ?_ _ | with_reducible refine Blk.set_ ?_ _ _ | refine Blk.far ?_ (by simp; omega) _)
  · have h7 := hown6.out
    have hr6 := R6.out
    have hr7 := R7.out
    refine pairs_own_cells2 h7 ?_
    rintro g cur hg
    have hg1 : g ≠ w.heap.size := fun e => by rw [e, show w6.heap[w.heap.size]? = _ from hr6] at hg; simp at hg
    have hg2 : g ≠ w.heap.size + 1 := fun e => by rw [e, show w6.heap[w.heap.size + 1]? = _ from hr7] at hg; simp at hg
    repeat rw [Below.heap_setCell _ _ _ _ (by first | exact hg1 | exact hg2)]
  · repeat (refine Below.setCell ?_ (by first | exact Nat.le_refl _ | exact Nat.le_succ _) _)
    exact hb6.out
  rintro W' ⟨g1, g2, g3⟩
  have e0 := g1.cell 0
  have e1 := g1.cell 1
  have e2 := g1.cell 2
  have e3 := g1.cell 3
  have e4 := g1.cell 4
  have e5 := g1.cell 5
  have e6 := g1.cell 6
  have e7 := g1.cell 7
  have e8 := g1.cell 8
  have e9 := g1.cell 9
  exact bodyPost_ret (v := .tuple #[.agg #[.int .i64 code, .int .i64 0, .int .i64 0, .bool false, .string ⟨#[]⟩, .slice vA n vc, .int .i64 0, .slice none 0 0, .int .i64 mark, .int .u64 0], .bool true]) (by simp [results, Tryz.results11, go_sem, e0, e1, e2, e3, e4, e5, e6, e7, e8, e9]) rfl ⟨vA, vc, rfl, g2, g3⟩
end Go.Proofs.YtmlnhjfdhjachaaGreat

/-
  How a view is made (layer 27). No condition. (Printed by tools/vw.py.)
-/
namespace Go.Proofs.YtmlnhjfdhjachaaGreat
set_option linter.unusedVariables false
open Go.ChangeShapes Go.WideShapes Go.ChangeAt Go.RowKit
open Go.ChangeMaps (setBlock)

set_option maxRecDepth 100000 in
set_option maxHeartbeats 4000000 in
theorem viewNewR_any (c : PCfg) (hc : c.Right) (th : Int) (hth : 0 ≤ th ∧ th ≤ 9223372036854775807) (w : World) : Calls Tryz.prog 8 #[.agg #[.int .i64 c.cap, .int .i64 c.pins, .int .i64 c.shelves, .int .i64 c.queue, .int .i64 c.watchers, .int .u64 c.seed], .int .i64 th] w fun e w' => ∃ b rb mb, e = .returned (.pointer (some ⟨b, 0, none⟩)) ∧ Blk w' b 97 #[.int .i64 c.cap, .int .i64 c.pins, .int .i64 c.shelves, .int .i64 c.queue, .int .i64 c.watchers, .int .u64 c.seed, .int .i64 1, .int .i64 0, .pointer (some ⟨rb, 0, none⟩), .int .i64 0, .int .u64 0, .bool false, .int .i64 0, .int .u64 0, .string ⟨#[]⟩, .pointer none, .map (some mb), .int .i64 0, .int .i64 0, .int .i64 0, .bool false, .string ⟨#[]⟩, .slice none 0 0, .int .i64 0, .slice none 0 0, .int .i64 0, .int .u64 0] ∧ MapTs w' mb [] ∧ w.heap.size ≤ b ∧ w.heap.size ≤ rb ∧ w.heap.size ≤ mb ∧ rb ≠ b ∧ mb ≠ b ∧ PinOk c w' rb (newPin c th) ∧ Below w.heap.size w w' := by
  have hR := fun W => right_cfg c W
  rw [(PCfg.right_iff c).2 hc] at hR
  have hN := fun W => pinNew_ok c hc th hth W
  rw [show PCfg.val c = .agg #[.int .i64 c.cap, .int .i64 c.pins, .int .i64 c.shelves, .int .i64 c.queue, .int .i64 c.watchers, .int .u64 c.seed] from rfl] at hR hN
  have hd0 : decide (th < 0) = false := by simp; omega
  have B1 := Blk.new w 24 #[.int .i64 c.cap, .int .i64 c.pins, .int .i64 c.shelves, .int .i64 c.queue, .int .i64 c.watchers, .int .u64 c.seed]
  have hz : Below w.heap.size w (w.alloc (.cells #[.int .i64 c.cap, .int .i64 c.pins, .int .i64 c.shelves, .int .i64 c.queue, .int .i64 c.watchers, .int .u64 c.seed] 24)) := (Below.refl _ _).alloc (Nat.le_refl _) _
  clear hc hth
  replace B1 := Lib.hid B1
  replace hz := Lib.hid hz
  replace hR := Lib.hid hR
  replace hN := Lib.hid hN
  go_enter Tryz.func8, Tryz.ntmps8
  go_wp2_with fail
  refine (hR.out _).mono ?_; rintro e w1 ⟨rfl, hb⟩
  have hz1 := nx hz.out (Nat.le_refl _) hb
  have B2 := B1.out.below hb (by simp)
  have d0 := B2.cell 0
  have d1 := B2.cell 1
  have d2 := B2.cell 2
  have d3 := B2.cell 3
  have d4 := B2.cell 4
  have d5 := B2.cell 5
  have hs1 := B2.lt
  have hmm := @run_makeMap Tryz.prog
  clear hb
  replace B2 := Lib.hid B2
  replace hz1 := Lib.hid hz1
  go_wp2_with fail
  go_region_held3 (fun W' : World => W'.cell? ⟨w.heap.size, 0, none⟩ = some (.int .i64 c.cap) ∧ W'.cell? ⟨w.heap.size, 1, none⟩ = some (.int .i64 c.pins) ∧ W'.cell? ⟨w.heap.size, 2, none⟩ = some (.int .i64 c.shelves) ∧ W'.cell? ⟨w.heap.size, 3, none⟩ = some (.int .i64 c.queue) ∧ W'.cell? ⟨w.heap.size, 4, none⟩ = some (.int .i64 c.watchers) ∧ W'.cell? ⟨w.heap.size, 5, none⟩ = some (.int .u64 c.seed)) (first | assumption | go_keep) (first | (go_at_call 37; refine (hN.out _).mono ?_; rintro e w2 ⟨rb, rfl, hV, hrb, hb2⟩; have hB3 : Blk w2 w.heap.size 24 #[.int .i64 c.cap, .int .i64 c.pins, .int .i64 c.shelves, .int .i64 c.queue, .int .i64 c.watchers, .int .u64 c.seed] := (by first | exact Blk.below (w := w1.drew) B2.out hb2 hs1 | exact Blk.below (B2.out.drew.alloc _) hb2 (by simp; omega)); have hSn : w2.cell? ⟨w.heap.size, 0, none⟩ = some (.int .i64 c.cap) ∧ w2.cell? ⟨w.heap.size, 1, none⟩ = some (.int .i64 c.pins) ∧ w2.cell? ⟨w.heap.size, 2, none⟩ = some (.int .i64 c.shelves) ∧ w2.cell? ⟨w.heap.size, 3, none⟩ = some (.int .i64 c.queue) ∧ w2.cell? ⟨w.heap.size, 4, none⟩ = some (.int .i64 c.watchers) ∧ w2.cell? ⟨w.heap.size, 5, none⟩ = some (.int .u64 c.seed) := ⟨hB3.cell 0, hB3.cell 1, hB3.cell 2, hB3.cell 3, hB3.cell 4, hB3.cell 5⟩; replace hB3 := Lib.hid hB3; replace hV := Lib.hid hV; replace hb2 := Lib.hid hb2))
  · go_wp2_with fail
    go_ret
    have hrl := hV.out.lies.blk.lt
    have hz1s := hz1.out.size
    have hrb' : w1.heap.size ≤ rb := hrb
    have hz2 := nx (b := w1.drew) hz1.out.drew (Nat.le_refl _) hb2.out
    have hs2 := hz2.size
    refine ⟨w2.heap.size + 1, rb, w2.heap.size, rfl, ?_, ?_, by omega, by omega, by omega, by omega, by omega, ?_, ?_⟩
    · have h := Blk.new (w2.alloc (.map #[] 0)) 97 #[.int .i64 c.cap, .int .i64 c.pins, .int .i64 c.shelves, .int .i64 c.queue, .int .i64 c.watchers, .int .u64 c.seed, .int .i64 1, .int .i64 0, .pointer (some ⟨rb, 0, none⟩), .int .i64 0, .int .u64 0, .bool false, .int .i64 0, .int .u64 0, .string ⟨#[]⟩, .pointer none, .map (some w2.heap.size), .int .i64 0, .int .i64 0, .int .i64 0, .bool false, .string ⟨#[]⟩, .slice none 0 0, .int .i64 0, .slice none 0 0, .int .i64 0, .int .u64 0]
      rw [World.size_alloc] at h
      exact h
    · exact (MapTs.made w2).keep (Below.heap_alloc _ _ _ (by simp))
    · exact hV.out.keep ((Below.heap_alloc _ _ _ (by simp; omega)).trans (Below.heap_alloc _ _ _ hrl))
    · exact (hz2.alloc hs2 _).alloc (by simp; omega) _
  · go_wp2_with fail
    go_ret
    have hrl := hV.out.lies.blk.lt
    have hz1s := hz1.out.size
    have hb3 := hb2.out
    have hrb' : w1.heap.size + 1 ≤ rb := by have h := hrb; simpa using h
    have hz2 : Below w.heap.size w w2 := Below.next_ (hz1.out.drew.alloc hz1s (.map #[] 0)) hb2.out
    have hs2 := hb3.size
    have hs3 : w1.heap.size + 1 ≤ w2.heap.size := by simpa using hs2
    refine ⟨w2.heap.size, rb, w1.heap.size, rfl, Blk.new w2 97 _, ?_, by omega, by omega, by omega, by omega, by omega, ?_, ?_⟩
    · exact ((MapTs.made w1.drew).keep (hb3.block _ (by simp))).keep (Below.heap_alloc _ _ _ (by show w1.heap.size < w2.heap.size; omega))
    · exact hV.out.keep (Below.heap_alloc _ _ _ hrl)
    · exact hz2.alloc hz2.size _
set_option maxRecDepth 100000 in
set_option maxHeartbeats 4000000 in
theorem viewNewN_any (c : PCfg) (hc : c.right = false) (th : Int) (w : World) : Calls Tryz.prog 8 #[.agg #[.int .i64 c.cap, .int .i64 c.pins, .int .i64 c.shelves, .int .i64 c.queue, .int .i64 c.watchers, .int .u64 c.seed], .int .i64 th] w fun e w' => ∃ b, e = .returned (.pointer (some ⟨b, 0, none⟩)) ∧ Blk w' b 97 #[.int .i64 0, .int .i64 0, .int .i64 0, .int .i64 0, .int .i64 0, .int .u64 0, .int .i64 0, .int .i64 0, .pointer none, .int .i64 0, .int .u64 0, .bool false, .int .i64 0, .int .u64 0, .string ⟨#[]⟩, .pointer none, .map none, .int .i64 0, .int .i64 0, .int .i64 0, .bool false, .string ⟨#[]⟩, .slice none 0 0, .int .i64 0, .slice none 0 0, .int .i64 0, .int .u64 0] ∧ w.heap.size ≤ b ∧ Below w.heap.size w w' := by
  have hR := fun W => right_cfg c W
  rw [hc] at hR
  rw [show PCfg.val c = .agg #[.int .i64 c.cap, .int .i64 c.pins, .int .i64 c.shelves, .int .i64 c.queue, .int .i64 c.watchers, .int .u64 c.seed] from rfl] at hR
  have hz : Below w.heap.size w (w.alloc (.cells #[.int .i64 c.cap, .int .i64 c.pins, .int .i64 c.shelves, .int .i64 c.queue, .int .i64 c.watchers, .int .u64 c.seed] 24)) := (Below.refl _ _).alloc (Nat.le_refl _) _
  clear hc
  replace hz := Lib.hid hz
  replace hR := Lib.hid hR
  go_enter Tryz.func8, Tryz.ntmps8
  go_wp2_with fail
  refine (hR.out _).mono ?_; rintro e w1 ⟨rfl, hb⟩
  have hz1 := nx hz.out (Nat.le_refl _) hb
  clear hb
  replace hz1 := Lib.hid hz1
  go_wp2_with fail
  go_ret
  exact ⟨w1.heap.size, rfl, Blk.new w1 _ _, hz1.out.size, hz1.out.alloc hz1.out.size _⟩
end Go.Proofs.YtmlnhjfdhjachaaGreat
