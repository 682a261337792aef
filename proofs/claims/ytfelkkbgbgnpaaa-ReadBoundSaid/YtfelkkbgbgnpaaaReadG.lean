/-
  The examples of the law of reading (layer 26). No condition.
-/
import Derived.Test.YtfelkkbgbgnpaaaReadM
import Derived.Test.YtfelkkbgbgnpaaaLay
namespace Go.Proofs.Ytfelkkbgbgnpaaa
set_option linter.unusedVariables false
open Go.ChangeShapes Go.WideShapes Go.ChangeAt Go.RowKit
open Go.ChangeMaps (setBlock)

theorem tinyVR : tinyC.val = .agg #[.int .i64 2, .int .i64 2, .int .i64 3, .int .i64 2, .int .i64 1, .int .u64 0] := rfl
def toldC (s : PRead) : Array Value := if s.part = 5 then #[.int .i64 s.code, .int .i64 0, .int .i64 0, .bool s.took, .string s.value, .slice none 0 0, .int .i64 0, .slice none 0 0, .int .i64 s.mark, .int .u64 0] else #[.int .i64 0, .int .i64 0, .int .i64 0, .bool false, .string ⟨#[]⟩, .slice none 0 0, .int .i64 0, .slice none 0 0, .int .i64 0, .int .u64 0]
theorem readResult_in {w : World} {Q : Nat → Prop} {b : Nat} {s : PRead} (h : ReadIn w Q b s) : Calls Try.prog 15 #[.pointer (some ⟨b, 0, none⟩)] w fun e w' => e = .returned (.tuple #[.agg (toldC s), .bool (decide (s.part = 5))]) ∧ Below w.heap.size w w' := by
  obtain ⟨pv, fv, cv, hB, _⟩ := h
  exact readResult_any hB
def kText : ByteArray := ⟨#[107]⟩
theorem fresh_look (c : PCfg) (hc : c.Right) (key : ByteArray) : lookP key (plN c key) (fun _ => none) c.shelves.toNat 0 = (2, ((plN c key 0 : Nat) : Int), 1) := by
  have h := hc.shelves
  obtain ⟨d, hd⟩ : ∃ d, c.shelves.toNat = d + 1 := ⟨c.shelves.toNat - 1, by omega⟩
  rw [hd]
  rfl
theorem put_look (c : PCfg) (hc : c.Right) (key : ByteArray) : lookP key (plN c key) (putT (fun _ => none) (plN c key 0) key) c.shelves.toNat 0 = (1, ((plN c key 0 : Nat) : Int), 2) := by
  have h := hc.shelves
  obtain ⟨d, hd⟩ : ∃ d, c.shelves.toNat = d + 1 := ⟨c.shelves.toNat - 1, by omega⟩
  rw [hd]
  unfold lookP
  simp [putT]
set_option maxRecDepth 100000 in
set_option maxHeartbeats 4000000 in
theorem awake26 (w : World) : Calls Try.prog 11 #[] w fun e w' => e = .returned (.bool true) ∧ Below w.heap.size w w' := by
  have hFd := fun W => field_any tinyC tiny_right W
  have hN0 := fun W => readNew_at tinyC 0 (by decide) kText (by decide) W
  have hN1 := fun W => readNew_at tinyC 1 (by decide) kText (by decide) W
  have hMo := fun W => readMost_any tinyC 0 (by decide) W
  have hAn := fun W => readAct_nil W
  have hpl := (plN_eq tiny_right kText 0).2
  have hLy := fun W w0 hb S F K (o : OwnK w0 hb S F K W) (hL : Laid S tinyC (fun _ => none) (fun _ => []) (fun _ => 0) 0) (hl : S.last ≤ 900) => layFree_any (key := kText) (value := ⟨#[118]⟩) (has := true) (ep := 0) tiny_right o hL hl (by decide) (by decide) (by decide) (plN tinyC kText 0) hpl (by rw [fresh_look _ tiny_right]) (by rw [fresh_look _ tiny_right]) rfl
  rw [show mostP tinyC 0 = 17 from by decide] at hMo
  rw [tinyVR] at hFd hN0 hN1 hMo
  rw [show kText = ⟨#[107]⟩ from rfl] at hN0 hN1
  have hA0 : ∀ S S' s' xs, Laid S tinyC (fun _ => none) (fun _ => []) (fun _ => 0) 0 → Runs readRout S (newRead tinyC 0 kText) xs S' s' → ((99 : Int) ≤ (xs.length : Nat) ∨ readRout.can S' s' = false) → s'.part = 5 ∧ s'.took = false ∧ s'.mark = 3 ∧ s'.code = 0 ∧ s'.value = ⟨#[]⟩ ∧ Laid S' tinyC (fun _ => none) (fun _ => []) (fun _ => 0) 0 ∧ S'.last = S.last ∧ xs.length = 5 := by
    intro S S' s' xs hL hr hs
    obtain ⟨h1, h2, h3, h4, h5, h6, h7, h8⟩ := read_alone tiny_right (by decide) hL (fun _ _ => rfl) 0 (by decide) (fun _ => Nat.le_refl _) hr hs (by decide)
    have hans : ansP tinyC kText (fun _ => none) (fun _ => []) 0 = ((false, ByteArray.empty), 1) := by
      unfold ansP
      rw [fresh_look _ tiny_right]
      rfl
    rw [hans] at h3 h4 h8
    exact ⟨h1, h3, h5, h2, h4, h6, h7, h8⟩
  have hA1 : ∀ S S' s' xs bk, Laid S tinyC (putT (fun _ => none) (plN tinyC kText 0) kText) (putS (fun _ => []) (plN tinyC kText 0) ⟨bk, 0, true, ⟨#[118]⟩⟩) (fun _ => 0) 0 → Runs readRout S (newRead tinyC 1 kText) xs S' s' → ((99 : Int) ≤ (xs.length : Nat) ∨ readRout.can S' s' = false) → s'.part = 5 ∧ s'.took = true ∧ s'.value = ⟨#[118]⟩ := by
    intro S S' s' xs bk hL hr hs
    obtain ⟨h1, h2, h3, h4, h5, h6, h7, h8⟩ := read_alone tiny_right (by decide) hL (fun _ _ => rfl) 1 (by decide) (fun j => by unfold putS; split <;> simp) hr hs (by decide)
    have hans : (ansP tinyC kText (putT (fun _ => none) (plN tinyC kText 0) kText) (putS (fun _ => []) (plN tinyC kText 0) ⟨bk, 0, true, ⟨#[118]⟩⟩) 0).1 = (true, ⟨#[118]⟩) := by
      unfold ansP
      rw [put_look _ tiny_right]
      simp only [Int.toNat_natCast, if_true]
      unfold putS
      rw [if_pos rfl]
      rfl
    rw [hans] at h3 h4
    exact ⟨h1, h3, h4⟩
  rw [show kText = ⟨#[107]⟩ from rfl] at hA0 hA1 hLy
  replace hFd := Lib.hid hFd
  replace hN0 := Lib.hid hN0
  replace hN1 := Lib.hid hN1
  replace hMo := Lib.hid hMo
  replace hAn := Lib.hid hAn
  replace hLy := Lib.hid hLy
  replace hA0 := Lib.hid hA0
  replace hA1 := Lib.hid hA1
  replace hpl := Lib.hid hpl
  go_enter Try.func11, Try.ntmps11
  go_wp2_with fail
  refine (tiny_any _).mono ?_; rintro e w1 ⟨rfl, hb1⟩
  have B1 := Blk.new w1 24 #[.int .i64 2, .int .i64 2, .int .i64 3, .int .i64 2, .int .i64 1, .int .u64 0]
  have hz1 : Below w.heap.size w (w1.alloc (.cells #[.int .i64 2, .int .i64 2, .int .i64 3, .int .i64 2, .int .i64 1, .int .u64 0] 24)) := hb1.alloc hb1.size _
  clear hb1
  replace B1 := Lib.hid B1
  replace hz1 := Lib.hid hz1
  go_wp2_with fail
  refine (hFd.out _).mono ?_; rintro e w2 ⟨hb, r, rfl, s2⟩
  obtain ⟨F2, o2⟩ := Own.of_sess s2
  have hF2 := o2.heap.own
  have hz2 := o2.below.size
  simp only [World.size_alloc] at hz2
  have k2 : OwnK (w1.alloc (.cells #[.int .i64 2, .int .i64 2, .int .i64 3, .int .i64 2, .int .i64 1, .int .u64 0] 24)) hb (fieldS tinyC r) F2 [(w1.heap.size, Obj.cells #[.int .i64 2, .int .i64 2, .int .i64 3, .int .i64 2, .int .i64 1, .int .u64 0] 24)] w2 := ⟨o2, fun x hx => by
    rw [List.mem_singleton.1 hx]
    exact ⟨B1.out.below o2.below (by simp), fun h => by have := o2.new _ h; simp only [World.size_alloc] at this; omega⟩⟩
  have C2 := k2.blk (List.mem_singleton.2 rfl)
  have d0 := C2.cell 0
  have d1 := C2.cell 1
  have d2 := C2.cell 2
  have d3 := C2.cell 3
  have d4 := C2.cell 4
  have d5 := C2.cell 5
  clear s2 C2
  replace o2 := Lib.hid o2
  replace k2 := Lib.hid k2
  go_wp2_with fail
  refine (hN0.out _).mono ?_; rintro e w3 ⟨b, rfl, hR3, hb3⟩
  have k3 := k2.out.below hb3
  have hA3 := ralone readRout k3 hR3 hF2 (fun x hx => by rw [List.mem_singleton.1 hx]; show w1.heap.size < w2.heap.size; omega) (by simp only [World.size_alloc]; omega) (by show (0 : Int) ≤ _; decide) (by show (1 : Int) ≤ _; decide) 99 (by decide)
  clear hb3 d0 d1 d2 d3 d4 d5
  replace k3 := Lib.hid k3
  replace hR3 := Lib.hid hR3
  replace hA3 := Lib.hid hA3
  go_wp2_with fail
  refine (hA3.out).mono ?_; rintro e w4 ⟨xs, S4, s4, F4, D4, hRun, hstop, rfl, k4, hR4, hoff4⟩
  obtain ⟨h41, h42, h43, h44, h45, h46, h47, h48⟩ := hA0.out _ _ _ _ (field_laid tinyC tiny_right r) hRun hstop
  have hRs := readResult_in hR4.2.2
  have hact4 : (readRout.act s4).2 = false := by show (PRead.act s4).2 = false; rw [PRead.act5 h41]
  rw [show toldC s4 = #[.int .i64 0, .int .i64 0, .int .i64 0, .bool false, .string ⟨#[]⟩, .slice none 0 0, .int .i64 0, .slice none 0 0, .int .i64 3, .int .u64 0] from by unfold toldC; rw [if_pos h41, h42, h43, h44, h45], h41] at hRs
  rw [h48, hact4]
  have hl4 : S4.last = 1 := by rw [h47]; rfl
  clear hRun hstop hA3 h41 h42 h43 h44 h45 h47 h48 hact4 hoff4 hR4
  replace k4 := Lib.hid k4
  replace hRs := Lib.hid hRs
  replace h46 := Lib.hid h46
  replace hl4 := Lib.hid hl4
  go_wp2_with fail
  refine (hRs.out).mono ?_; rintro e w5 ⟨rfl, hb5⟩
  have k5 := (k4.out.below hb5).add (.cells #[.int .i64 0, .int .i64 0, .int .i64 0, .bool false, .string ⟨#[]⟩, .slice none 0 0, .int .i64 0, .slice none 0 0, .int .i64 3, .int .u64 0] 42)
  have C5 := k5.blk (List.mem_cons_of_mem _ (List.mem_singleton.2 rfl))
  have d0 := C5.cell 0
  have d1 := C5.cell 1
  have d2 := C5.cell 2
  have d3 := C5.cell 3
  have d4 := C5.cell 4
  have d5 := C5.cell 5
  have hLw := hLy.out _ _ _ _ _ _ k5 h46.out (by rw [hl4.out]; decide)
  clear hb5 hRs C5
  replace k5 := Lib.hid k5
  replace hLw := Lib.hid hLw
  go_wp2_with fail
  refine (hLw.out).mono ?_; rintro e w6 ⟨S6, F6, bk, rfl, k6, hL6, hl6⟩
  have C6 := k6.blk (List.mem_cons_of_mem _ (List.mem_singleton.2 rfl))
  clear d0 d1 d2 d3 d4 d5
  have d0 := C6.cell 0
  have d1 := C6.cell 1
  have d2 := C6.cell 2
  have d3 := C6.cell 3
  have d4 := C6.cell 4
  have d5 := C6.cell 5
  have hl6' : S6.last ≤ 3 := by have := hl4.out; omega
  have hft6 := hL6.faults
  have hF6 := k6.own.heap.own
  have hz6 := k6.own.below.size
  simp only [World.size_alloc] at hz6
  have hk6 := fun x hx => k6.lt (x := x) hx
  clear C6 hl6
  replace k6 := Lib.hid k6
  replace hL6 := Lib.hid hL6
  replace hft6 := Lib.hid hft6
  replace hk6 := Lib.hid hk6
  go_wp2_with fail
  refine (hN1.out _).mono ?_; rintro e w7 ⟨b7, rfl, hR7, hb7⟩
  have k7 := k6.out.below hb7
  have hA7 := ralone readRout k7 hR7 hF6 hk6.out (by simp only [World.size_alloc]; omega) (by rw [hft6.out]; decide) (by omega) 99 (by decide)
  clear hb7 d0 d1 d2 d3 d4 d5
  replace k7 := Lib.hid k7
  replace hR7 := Lib.hid hR7
  replace hA7 := Lib.hid hA7
  go_wp2_with fail
  refine (hA7.out).mono ?_; rintro e w8 ⟨xs8, S8, s8, F8, D8, hRun, hstop, rfl, k8, hR8, hoff8⟩
  obtain ⟨h81, h82, h83⟩ := hA1.out _ _ _ _ _ hL6.out hRun hstop
  have hRs := readResult_in hR8.2.2
  rw [show toldC s8 = #[.int .i64 s8.code, .int .i64 0, .int .i64 0, .bool true, .string ⟨#[118]⟩, .slice none 0 0, .int .i64 0, .slice none 0 0, .int .i64 s8.mark, .int .u64 0] from by unfold toldC; rw [if_pos h81, h82, h83], h81] at hRs
  clear hRun hstop hA7 h81 h82 h83 hoff8 hR8
  replace k8 := Lib.hid k8
  replace hRs := Lib.hid hRs
  go_wp2_with fail
  refine (hRs.out).mono ?_; rintro e w9 ⟨rfl, hb9⟩
  have k9 := (k8.out.below hb9).add (.cells #[.int .i64 s8.code, .int .i64 0, .int .i64 0, .bool true, .string ⟨#[118]⟩, .slice none 0 0, .int .i64 0, .slice none 0 0, .int .i64 s8.mark, .int .u64 0] 42)
  clear hb9 hRs
  replace k9 := Lib.hid k9
  go_wp2_with fail
  refine (hAn.out _).mono ?_; rintro e w10 ⟨rfl, hb10⟩
  have k10 := (k9.out.below hb10).add (.cells #[.int .i64 0, .int .u64 0, .int .i64 0, .int .u64 0, .int .u64 0, .string ⟨#[]⟩] 31)
  have C10 := k10.blk (List.mem_cons_of_mem _ (List.mem_cons_of_mem _ (List.mem_cons_of_mem _ (List.mem_singleton.2 rfl))))
  have P10 := k10.blk (List.mem_cons_of_mem _ (List.mem_cons_of_mem _ (List.mem_cons_self ..)))
  have Q10 := k10.blk (List.mem_cons_of_mem _ (List.mem_cons_self ..))
  have d0 := C10.cell 0
  have d1 := C10.cell 1
  have d2 := C10.cell 2
  have d3 := C10.cell 3
  have d4 := C10.cell 4
  have d5 := C10.cell 5
  have p3 := P10.cell 3
  have p8 := P10.cell 8
  have q3 := Q10.cell 3
  have q4 := Q10.cell 4
  have hl1 := C10.lt
  have hl2 := P10.lt
  have hl3 := Q10.lt
  clear hb10 C10 P10 Q10
  replace k10 := Lib.hid k10
  go_wp2_with fail
  refine (hMo.out _).mono ?_; rintro e w11 ⟨rfl, hb11⟩
  have k11 := k10.out.below hb11
  go_wp2_with fail
  go_ret
  exact ⟨rfl, hz1.out.trans (k11.own.below.mono hz1.out.size)⟩
end Go.Proofs.Ytfelkkbgbgnpaaa
