import Derived.Deep.CutRange
import Derived.Deep.RegionHeld3
import Derived.StillTailTactics
import Derived.Test.YtmlnhjfdhjachaaGreatQva18
/-
  Two answers that are alike, with pairs (layers 6 and 16). No condition.
-/
namespace Go.Proofs.YtmlnhjfdhjachaaGreat
set_option linter.unusedVariables false
open Go.ChangeShapes Go.WideShapes Go.ChangeAt Go.RowKit
open Go.ChangeMaps (setBlock)

structure SameRel (w : World) (n : Nat) (iv : Value) (wr : World) : Prop where
  ex : ∃ k : Nat, k ≤ n ∧ iv = .int .i64 k
  below : Below w.heap.size w wr
set_option maxRecDepth 100000 in
set_option maxHeartbeats 2000000 in
theorem same06_any {w : World} {A A' : Option Addr} {n cap cap' : Nat} {m : List (ByteArray × ByteArray)} (hlen : m.length = n) (hn : n ≤ 1000) (hr : Reads w w.heap.size 2 A n (pairL m)) (hr' : Reads w w.heap.size 2 A' n (pairL m)) :
    Calls Tryz.prog 29 #[.slice A n cap, .slice A' n cap'] w fun e w' => e = .returned (.bool true) ∧ Below w.heap.size w w' := by
  replace hr := Lib.hid hr
  replace hr' := Lib.hid hr'
  replace hlen := Lib.hid hlen
  go_enter Tryz.func29, Tryz.ntmps29
  go_wp2_with fail
  go_loopw [5] (fun iv wr => SameRel w n iv wr) (fun i _ => n + 1 - (intOf i).toNat)
  case atStart => exact ⟨⟨0, Nat.zero_le _, rfl⟩, Below.refl _ _⟩
  case round =>
    obtain ⟨⟨k, hk, rfl⟩, hbl⟩ := hrel
    by_cases hlt : k < n
    · have d2 : decide ((k : Int) < (n : Int)) = true := by simpa using hlt
      obtain ⟨ad, p, rfl, hp, r0, r1⟩ := pair_at hr.out hbl hlt hlen.out
      obtain ⟨ad', p', rfl, hp', s0, s1⟩ := pair_at hr'.out hbl hlt hlen.out
      obtain rfl : p' = p := by rw [hp] at hp'; injection hp' with hp'; exact hp'.symm
      have i1 : (0 : Int) ≤ (k : Int) := by omega
      have i2 : (k : Int) < (n : Int) := by omega
      have hl63 : (k : Int) + 1 ≤ 9223372036854775807 := by omega
      have r1' : wr.cell? ⟨(ad.add (k * 2)).block, (ad.add (k * 2)).off + 1, none⟩ = some (.string p'.2) := by
        have e : (⟨(ad.add (k * 2)).block, (ad.add (k * 2)).off + 1, none⟩ : Addr) = (ad.add (k * 2)).add 1 := rfl
        rw [e, add_of_add]
        exact r1
      have s1' : wr.cell? ⟨(ad'.add (k * 2)).block, (ad'.add (k * 2)).off + 1, none⟩ = some (.string p'.2) := by
        have e : (⟨(ad'.add (k * 2)).block, (ad'.add (k * 2)).off + 1, none⟩ : Addr) = (ad'.add (k * 2)).add 1 := rfl
        rw [e, add_of_add]
        exact s1
      obtain ⟨pk, pv⟩ := p'
      simp only at r0 r1' s0 s1'
      clear r1 s1 hp'
      replace hp := Lib.hid hp
      replace hbl := Lib.hid hbl
      go_wp2_with fail
      go_quiet (fail)
      go_wp2_with fail
      go_roundw
      case rel => exact ⟨⟨k + 1, by omega, by go_num⟩, below_drewN hbl.out _⟩
      case measure => simp [intOf]; omega
    · have d2 : decide ((k : Int) < (n : Int)) = false := by simpa using hlt
      go_wp2_with fail
      go_ret
      exact ⟨rfl, hbl⟩
end Go.Proofs.YtmlnhjfdhjachaaGreat

/-
  The examples of the law of viewing (layer 27). No condition.
-/
namespace Go.Proofs.YtmlnhjfdhjachaaGreat
set_option linter.unusedVariables false
open Go.ChangeShapes Go.WideShapes Go.ChangeAt Go.RowKit
open Go.ChangeMaps (setBlock)

def aText : ByteArray := ⟨#[97]⟩
def vText : ByteArray := ⟨#[118]⟩
/-- The example's keys. -/
def tx1 : Nat → Option ByteArray := putT (fun _ => none) (plN tinyC kText 0) kText
def pA : Nat := (lookP aText (plN tinyC aText) tx1 tinyC.shelves.toNat 0).2.1.toNat
def st1 (bk : Int) : Nat → List PVersion := putS (fun _ => []) (plN tinyC kText 0) ⟨bk, 0, true, vText⟩
theorem pA_is : (lookP aText (plN tinyC aText) tx1 tinyC.shelves.toNat 0).1 = 2 ∧ (lookP aText (plN tinyC aText) tx1 tinyC.shelves.toNat 0).2.1 = pA ∧ tx1 pA = none ∧ (pA : Int) < tinyC.shelves := by
  exact ⟨by decide +kernel, by decide +kernel, by kernel_rfl, by decide +kernel⟩
theorem seen_ex (bk bk2 : Int) : putAll [] (seenAt 0 (putT tx1 pA aText) (putS (st1 bk) pA ⟨bk2, 0, false, ByteArray.empty⟩) tinyC.shelves.toNat) = [(kText, vText)] := by
  have h0 := know_none tinyC 0
  have h1 : (lookP kText (plN tinyC kText) (fun _ => none) tinyC.shelves.toNat 0).1 = 2 := by decide +kernel
  have h2 : (lookP kText (plN tinyC kText) (fun _ => none) tinyC.shelves.toNat 0).2.1 = (plN tinyC kText 0 : Nat) := by decide +kernel
  have k1 : Know tinyC tx1 (st1 bk) 0 [(kText, vText)] := (h0.put h1 h2 rfl).push (m' := [(kText, vText)]) (value := vText) (by unfold putT; rw [if_pos rfl]) bk 0 true fun t => by
    show (if kText = t then (true, vText) else (false, ByteArray.empty)) = _
    by_cases ht : t = kText
    · simp [ht]
    · rw [if_neg (fun h => ht h.symm), if_neg (fun h => ht h.1)]
      rfl
  obtain ⟨a1, a2, a3, a4⟩ := pA_is
  have k2 : Know tinyC (putT tx1 pA aText) (putS (st1 bk) pA ⟨bk2, 0, false, ByteArray.empty⟩) 0 [(kText, vText)] := (k1.put a1 a2 a3).push (m' := [(kText, vText)]) (value := ByteArray.empty) (by unfold putT; rw [if_pos rfl]) bk2 0 false fun t => by
    show (if kText = t then (true, vText) else (false, ByteArray.empty)) = _
    by_cases ht : t = aText
    · rw [ht]
      rw [if_neg (by decide), if_pos ⟨rfl, by decide⟩]
      rfl
    · rw [if_neg (show ¬ (t = aText ∧ (0 : Int) ≤ 0) from fun h => ht h.1)]
      rfl
  exact seen_is tiny_right k2 (List.pairwise_singleton _ _)
theorem putS_lenV (st : Nat → List PVersion) (p : Nat) (v : PVersion) (j : Nat) : (putS st p v j).length ≤ (st j).length + 1 := by
  unfold putS
  split
  · exact Nat.le_refl _
  · omega
theorem reads_pair (W : World) (a b : ByteArray) : Reads (W.alloc (.cells #[.string a, .string b] 90)) (W.alloc (.cells #[.string a, .string b] 90)).heap.size 2 (some ⟨W.heap.size, 0, none⟩) 1 (pairL [(a, b)]) := by
  refine ⟨rfl, fun _ => ⟨_, rfl, by simp, fun j u hu => ?_⟩⟩
  exact pair_cells W (.string a) (.string b) j u hu
theorem lay_k {W w0 : World} {hb : Nat} {S : PHeap} {F : Nat → Prop} {K : List (Nat × Obj)} (o : OwnK w0 hb S F K W) (hL : Laid S tinyC (fun _ => none) (fun _ => []) (fun _ => 0) 0) (hl : S.last ≤ 900) :
    Calls Tryz.prog 17 #[.pointer (some ⟨hb, 0, none⟩), .agg #[.int .i64 2, .int .i64 2, .int .i64 3, .int .i64 2, .int .i64 1, .int .u64 0], .int .u64 0, .agg #[.string ⟨#[107]⟩, .bool true, .string ⟨#[118]⟩]] W fun x w' => ∃ S' F' bk, x = .returned (.bool true) ∧ OwnK w0 hb S' F' K w' ∧ Laid S' tinyC tx1 (st1 bk) (fun _ => 0) 0 ∧ S'.last ≤ S.last + 2 :=
  layFree_any (key := kText) (value := vText) (has := true) (ep := 0) tiny_right o hL hl (by decide) (by decide) (by decide) (plN tinyC kText 0) (plN_eq tiny_right kText 0).2 (by rw [fresh_look _ tiny_right]) (by rw [fresh_look _ tiny_right]) rfl
theorem lay_a {W w0 : World} {hb : Nat} {S : PHeap} {F : Nat → Prop} {K : List (Nat × Obj)} {bk : Int} (o : OwnK w0 hb S F K W) (hL : Laid S tinyC tx1 (st1 bk) (fun _ => 0) 0) (hl : S.last ≤ 900) :
    Calls Tryz.prog 17 #[.pointer (some ⟨hb, 0, none⟩), .agg #[.int .i64 2, .int .i64 2, .int .i64 3, .int .i64 2, .int .i64 1, .int .u64 0], .int .u64 0, .agg #[.string ⟨#[97]⟩, .bool false, .string ⟨#[]⟩]] W fun x w' => ∃ S' F' bk2, x = .returned (.bool true) ∧ OwnK w0 hb S' F' K w' ∧ Laid S' tinyC (putT tx1 pA aText) (putS (st1 bk) pA ⟨bk2, 0, false, ByteArray.empty⟩) (fun _ => 0) 0 ∧ S'.last ≤ S.last + 2 :=
  layFree_any (key := aText) (value := ByteArray.empty) (has := false) (ep := 0) tiny_right o hL hl (by decide) (by decide) (by decide) pA pA_is.2.2.2 pA_is.1 pA_is.2.1 pA_is.2.2.1
theorem view_ex0 {S S' : PHeap} {s' : PView} {xs : List (PAct × PGot)} (hL : Laid S tinyC (fun _ => none) (fun _ => []) (fun _ => 0) 0) (hr : Runs viewRout S (newView tinyC 0) xs S' s') (hs : (99 : Int) ≤ (xs.length : Nat) ∨ viewRout.can S' s' = false) : s'.part = 6 ∧ s'.mark = 3 ∧ s'.code = 0 ∧ s'.out = [] ∧ Laid S' tinyC (fun _ => none) (fun _ => []) (fun _ => 0) 0 ∧ S'.last = S.last ∧ xs.length = 7 := by
  obtain ⟨h1, h2, h3, h4, h5, h6, h7, h8⟩ := view_alone tiny_right (by decide) hL (fun _ _ => rfl) 0 (by decide) (fun _ => Nat.le_refl _) hr hs (by decide)
  refine ⟨h1, h4, h2, ?_, h5, h6, h8⟩
  unfold PView.out
  rw [h2, if_pos rfl, h3]
  rfl
theorem view_ex1 {S S' : PHeap} {s' : PView} {xs : List (PAct × PGot)} {bk bk2 : Int} (hL : Laid S tinyC (putT tx1 pA aText) (putS (st1 bk) pA ⟨bk2, 0, false, ByteArray.empty⟩) (fun _ => 0) 0) (hr : Runs viewRout S (newView tinyC 1) xs S' s') (hs : (99 : Int) ≤ (xs.length : Nat) ∨ viewRout.can S' s' = false) : s'.part = 6 ∧ s'.out = [(kText, vText)] := by
  obtain ⟨h1, h2, h3, h4, h5, h6, h7, h8⟩ := view_alone tiny_right (by decide) hL (fun _ _ => rfl) 2 (by decide) (fun j => by
    have e1 := putS_lenV (st1 bk) pA ⟨bk2, 0, false, ByteArray.empty⟩ j
    have e2 := putS_lenV (fun _ => []) (plN tinyC kText 0) ⟨bk, 0, true, vText⟩ j
    unfold st1 at e1 ⊢
    simp only [List.length_nil] at e2
    omega) hr hs (by decide)
  refine ⟨h1, ?_⟩
  unfold PView.out
  rw [h2, if_pos rfl, h3]
  exact seen_ex bk bk2
set_option maxRecDepth 100000 in
set_option maxHeartbeats 4000000 in
theorem awake27 (w : World) : Calls Tryz.prog 7 #[] w fun e w' => e = .returned (.bool true) ∧ Below w.heap.size w w' := by
  have hFd := fun W => field_any tinyC tiny_right W
  have hN0 := fun W => viewNew_at tinyC 0 (by decide) W
  have hN1 := fun W => viewNew_at tinyC 1 (by decide) W
  have hAn := fun W => viewAct_nil W
  rw [tinyVR] at hFd hN0 hN1
  replace hFd := Lib.hid hFd
  replace hN0 := Lib.hid hN0
  replace hN1 := Lib.hid hN1
  replace hAn := Lib.hid hAn
  go_enter Tryz.func7, Tryz.ntmps7
  go_wp2_with fail
  refine (tiny_any _).mono ?_; rintro e w1 ⟨rfl, hb1⟩
  have B1 := Blk.new w1 24 #[.int .i64 2, .int .i64 2, .int .i64 3, .int .i64 2, .int .i64 1, .int .u64 0]
  have hz1 : Below w.heap.size w (w1.alloc (.cells #[.int .i64 2, .int .i64 2, .int .i64 3, .int .i64 2, .int .i64 1, .int .u64 0] 24)) := hb1.alloc hb1.size _
  clear hb1
  replace B1 := Lib.hid B1
  replace hz1 := Lib.hid hz1
  go_wp2_with fail
  refine (hFd.out _).mono ?_; rintro e w2 ⟨hb, r, rfl, s2⟩
  obtain ⟨F2, o2⟩ := Own.of_sess s2
  have hF2 := o2.heap.own
  have hz2 := o2.below.size
  simp only [World.size_alloc] at hz2
  have k2 : OwnK (w1.alloc (.cells #[.int .i64 2, .int .i64 2, .int .i64 3, .int .i64 2, .int .i64 1, .int .u64 0] 24)) hb (fieldS tinyC r) F2 [(w1.heap.size, Obj.cells #[.int .i64 2, .int .i64 2, .int .i64 3, .int .i64 2, .int .i64 1, .int .u64 0] 24)] w2 := ⟨o2, fun x hx => by
    rw [List.mem_singleton.1 hx]
    exact ⟨B1.out.below o2.below (by simp), fun h => by have := o2.new _ h; simp only [World.size_alloc] at this; omega⟩⟩
  have C2 := k2.blk (List.mem_singleton.2 rfl)
  have d0 := C2.cell 0
  have d1 := C2.cell 1
  have d2 := C2.cell 2
  have d3 := C2.cell 3
  have d4 := C2.cell 4
  have d5 := C2.cell 5
  clear s2 C2
  replace o2 := Lib.hid o2
  replace k2 := Lib.hid k2
  go_wp2_with fail
  refine (hN0.out _).mono ?_; rintro e w3 ⟨b, rfl, hR3, hb3⟩
  have k3 := k2.out.below hb3
  have hA3 := ralone viewRout k3 hR3 hF2 (fun x hx => by rw [List.mem_singleton.1 hx]; show w1.heap.size < w2.heap.size; omega) (by simp only [World.size_alloc]; omega) (by show (0 : Int) ≤ _; decide) (by show (1 : Int) ≤ _; decide) 99 (by decide)
  clear hb3 d0 d1 d2 d3 d4 d5
  replace k3 := Lib.hid k3
  replace hR3 := Lib.hid hR3
  replace hA3 := Lib.hid hA3
  go_wp2_with fail
  refine (hA3.out).mono ?_; rintro e w4 ⟨xs, S4, s4, F4, D4, hRun, hstop, rfl, k4, hR4, hoff4⟩
  obtain ⟨h41, h42, h43, h44, h46, h47, h48⟩ := view_ex0 (field_laid tinyC tiny_right r) hRun hstop
  have hRs := viewTold_any hR4.2.2
  have hact4 : (viewRout.act s4).2 = false := by show (PView.act s4).2 = false; rw [PView.act6 h41]
  unfold ViewTold at hRs
  rw [h44, h43, h42] at hRs
  simp only [h41, if_true] at hRs
  rw [h48, hact4]
  have hl4 : S4.last = 1 := by rw [h47]; rfl
  clear hRun hstop hA3 h41 h42 h43 h44 h47 h48 hact4 hoff4 hR4
  replace k4 := Lib.hid k4
  replace hRs := Lib.hid hRs
  replace h46 := Lib.hid h46
  replace hl4 := Lib.hid hl4
  go_wp2_with fail
  refine (hRs.out).mono ?_; rintro e w5 ⟨vA, vc, rfl, _, hb5⟩
  have k5 := (k4.out.below hb5).add (.cells #[.int .i64 0, .int .i64 0, .int .i64 0, .bool false, .string ⟨#[]⟩, .slice vA 0 vc, .int .i64 0, .slice none 0 0, .int .i64 3, .int .u64 0] 42)
  have C5 := k5.blk (List.mem_cons_of_mem _ (List.mem_singleton.2 rfl))
  have d0 := C5.cell 0
  have d1 := C5.cell 1
  have d2 := C5.cell 2
  have d3 := C5.cell 3
  have d4 := C5.cell 4
  have d5 := C5.cell 5
  have hLw := lay_k k5 h46.out (by rw [hl4.out]; decide)
  clear hb5 hRs C5
  replace k5 := Lib.hid k5
  replace hLw := Lib.hid hLw
  go_wp2_with fail
  refine (hLw.out).mono ?_; rintro e w6 ⟨S6, F6, bk, rfl, k6, hL6, hl6⟩
  have C6 := k6.blk (List.mem_cons_of_mem _ (List.mem_singleton.2 rfl))
  clear d0 d1 d2 d3 d4 d5
  have d0 := C6.cell 0
  have d1 := C6.cell 1
  have d2 := C6.cell 2
  have d3 := C6.cell 3
  have d4 := C6.cell 4
  have d5 := C6.cell 5
  have hl6' : S6.last ≤ 3 := by have := hl4.out; omega
  have hLw6 := lay_a k6 hL6 (by omega)
  clear hl6 C6
  replace k6 := Lib.hid k6
  replace hL6 := Lib.hid hL6
  replace hLw6 := Lib.hid hLw6
  go_wp2_with fail
  refine (hLw6.out).mono ?_; rintro e w66 ⟨S66, F66, bk2, rfl, k66, hL66, hl66⟩
  have C66 := k66.blk (List.mem_cons_of_mem _ (List.mem_singleton.2 rfl))
  clear d0 d1 d2 d3 d4 d5
  have d0 := C66.cell 0
  have d1 := C66.cell 1
  have d2 := C66.cell 2
  have d3 := C66.cell 3
  have d4 := C66.cell 4
  have d5 := C66.cell 5
  have hl66' : S66.last ≤ 5 := by omega
  have hft6 := hL66.faults
  have hF6 := k66.own.heap.own
  have hz6 := k66.own.below.size
  simp only [World.size_alloc] at hz6
  have hk6 := fun x hx => k66.lt (x := x) hx
  clear C66 hl66
  replace k66 := Lib.hid k66
  replace hL66 := Lib.hid hL66
  replace hft6 := Lib.hid hft6
  replace hk6 := Lib.hid hk6
  go_wp2_with fail
  refine (hN1.out _).mono ?_; rintro e w7 ⟨b7, rfl, hR7, hb7⟩
  have k7 := k66.out.below hb7
  have hA7 := ralone viewRout k7 hR7 hF6 hk6.out (by simp only [World.size_alloc]; omega) (by rw [hft6.out]; decide) (by omega) 99 (by decide)
  clear hb7 d0 d1 d2 d3 d4 d5
  replace k7 := Lib.hid k7
  replace hR7 := Lib.hid hR7
  replace hA7 := Lib.hid hA7
  go_wp2_with fail
  refine (hA7.out).mono ?_; rintro e w8 ⟨xs8, S8, s8, F8, D8, hRun, hstop, rfl, k8, hR8, hoff8⟩
  obtain ⟨h81, h82⟩ := view_ex1 hL66.out hRun hstop
  have hRs := viewTold_any hR8.2.2
  unfold ViewTold at hRs
  rw [h82] at hRs
  simp only [h81, if_true] at hRs
  clear hRun hstop hA7 h81 h82 hoff8 hR8
  replace k8 := Lib.hid k8
  replace hRs := Lib.hid hRs
  go_wp2_with fail
  refine (hRs.out).mono ?_; rintro e w9 ⟨vA9, vc9, rfl, hown9, hb9⟩
  have k9 := (k8.out.below hb9).add (.cells #[.int .i64 s8.code, .int .i64 0, .int .i64 0, .bool false, .string ⟨#[]⟩, .slice vA9 1 vc9, .int .i64 0, .slice none 0 0, .int .i64 s8.mark, .int .u64 0] 42)
  have hr9 := Reads.of_own hown9
  clear hb9 hRs hown9
  replace k9 := Lib.hid k9
  replace hr9 := Lib.hid hr9
  go_wp2_with fail
  refine (hAn.out _).mono ?_; rintro e w10 ⟨rfl, hb10⟩
  have k10 := (k9.out.below hb10).add (.cells #[.int .i64 0, .int .u64 0, .int .i64 0, .int .u64 0, .int .u64 0, .string ⟨#[]⟩] 31)
  have hr10 : Reads (w10.alloc (.cells #[.int .i64 0, .int .u64 0, .int .i64 0, .int .u64 0, .int .u64 0, .string ⟨#[]⟩] 31)) w9.heap.size 2 vA9 1 (pairL [(kText, vText)]) := by
    have h1 := (hr9.out.alloc (Nat.le_refl _) (.cells #[.int .i64 s8.code, .int .i64 0, .int .i64 0, .bool false, .string ⟨#[]⟩, .slice vA9 1 vc9, .int .i64 0, .slice none 0 0, .int .i64 s8.mark, .int .u64 0] 42))
    have h2 := h1.below (hb10.mono (by simp))
    have h3 := hb10.size
    simp only [World.size_alloc] at h3
    exact h2.alloc (by omega) _
  have hsz10 : w9.heap.size < w10.heap.size := by have h3 := hb10.size; simp only [World.size_alloc] at h3; omega
  have P10 := k10.blk (List.mem_cons_of_mem _ (List.mem_cons_of_mem _ (List.mem_cons_self ..)))
  have Q10 := k10.blk (List.mem_cons_of_mem _ (List.mem_cons_self ..))
  have p5 := P10.cell 5
  have p8 := P10.cell 8
  have q5 := Q10.cell 5
  have hl2 := P10.lt
  have hl3 := Q10.lt
  have hrp := reads_pair (w10.alloc (.cells #[.int .i64 0, .int .u64 0, .int .i64 0, .int .u64 0, .int .u64 0, .string ⟨#[]⟩] 31)) ⟨#[107]⟩ ⟨#[118]⟩
  have e10 : (w10.alloc (.cells #[.int .i64 0, .int .u64 0, .int .i64 0, .int .u64 0, .int .u64 0, .string ⟨#[]⟩] 31)).heap.size = w10.heap.size + 1 := World.size_alloc _ _
  rw [e10] at hrp
  have hSm := same06_any (cap := vc9) (cap' := 1) (m := [(kText, vText)]) rfl (by decide) ((hr10.alloc (by rw [e10]; omega) _).more (by rw [World.size_alloc, e10]; omega)) hrp
  replace e10 := Lib.hid e10
  replace hrp := Lib.hid hrp
  clear hb10 P10 Q10
  replace k10 := Lib.hid k10
  replace hSm := Lib.hid hSm
  replace hr10 := Lib.hid hr10
  go_wp2_with fail
  refine (hSm.out).mono ?_; rintro e w11 ⟨rfl, hb11⟩
  have k11 := Below.next_ (Below.more_ k10.out.own.below (.cells #[.string ⟨#[107]⟩, .string ⟨#[118]⟩] 90)) hb11
  replace k11 := Lib.hid k11
  clear hb11 hSm
  go_wp2_with fail
  go_ret
  exact ⟨rfl, hz1.out.trans (k11.out.mono hz1.out.size)⟩
end Go.Proofs.YtmlnhjfdhjachaaGreat

/-
  Laying a change on a field (layer 26's law): what is told of the pairs. No condition.
-/
namespace Go.Proofs.YtmlnhjfdhjachaaGreat
set_option linter.unusedVariables false
open Go.ChangeShapes Go.WideShapes Go.ChangeAt Go.RowKit
open Go.ChangeMaps (setBlock)

/-- What laying leaves where it went well. -/
structure LayOk (c : PCfg) (key value : ByteArray) (has : Bool) (ep e : Int) (pn : Nat → Int) (S : PHeap) (tx : Nat → Option ByteArray) (st : Nat → List PVersion) (S' : PHeap) (tx' : Nat → Option ByteArray) (st' : Nat → List PVersion) : Prop where
  laid : Laid S' c tx' st' pn e
  last : S'.last ≤ S.last + 2
  len : ∀ j, (st' j).length ≤ (st j).length + 1
  know : ∀ e' m m', Know c tx st e' m → (∀ t, getP m' t = if t = key ∧ ep ≤ e' then (has, if has then value else ByteArray.empty) else getP m t) → Know c tx' st' e' m'
theorem putS_len (st : Nat → List PVersion) (p : Nat) (v : PVersion) (j : Nat) : (putS st p v j).length ≤ (st j).length + 1 := by
  unfold putS
  split
  · exact Nat.le_refl _
  · omega
theorem lay_any {w0 w : World} {hb : Nat} {S : PHeap} {F : Nat → Prop} {K : List (Nat × Obj)} {c : PCfg} {tx : Nat → Option ByteArray} {st : Nat → List PVersion} {pn : Nat → Int} {e ep : Int} {key value : ByteArray} {has : Bool} (hc : c.Right) (o : OwnK w0 hb S F K w) (hL : Laid S c tx st pn e) (hl : S.last ≤ 900)
    (hkey : key.size ≤ 9223372036854775807) (hval : value.size ≤ 1000) (hep : 0 ≤ ep ∧ ep ≤ 18446744073709551615) :
    Calls Tryz.prog 17 #[.pointer (some ⟨hb, 0, none⟩), .agg #[.int .i64 c.cap, .int .i64 c.pins, .int .i64 c.shelves, .int .i64 c.queue, .int .i64 c.watchers, .int .u64 c.seed], .int .u64 ep, .agg #[.string key, .bool has, .string value]] w fun x w' => ∃ S' F' ok tx' st', x = .returned (.bool ok) ∧ OwnK w0 hb S' F' K w' ∧ (ok = true → LayOk c key value has ep e pn S tx st S' tx' st') := by
  rcases look_kind (key := key) (pl := plN c key) (tx := tx) c.shelves.toNat 0 with ⟨h1, p, h2, h3, i, hi⟩ | h1 | ⟨h1, _⟩
  · have hp : (p : Int) < c.shelves := by rw [hi]; exact (plN_eq hc key i).2
    refine (layHere_any (value := value) (has := has) hc o hL hl hkey hval hep p hp h1 h2).mono ?_
    rintro x w' ⟨S', F', bk, rfl, h4, h5, h6, _⟩
    exact ⟨S', F', true, _, _, rfl, h4, fun _ => ⟨h5, h6, putS_len _ _ _, fun e' m m' hk hm => hk.push h3 bk ep has hm⟩⟩
  · obtain ⟨p, h2, h3, ⟨i, hi⟩, _⟩ := look_put (key := key) (pl := plN c key) (tx := tx) c.shelves.toNat 0 h1
    have hp : (p : Int) < c.shelves := by rw [hi]; exact (plN_eq hc key i).2
    refine (layFree_any (value := value) (has := has) hc o hL hl hkey hval hep p hp h1 h2 h3).mono ?_
    rintro x w' ⟨S', F', bk, rfl, h4, h5, h6⟩
    exact ⟨S', F', true, _, _, rfl, h4, fun _ => ⟨h5, h6, putS_len _ _ _, fun e' m m' hk hm => (hk.put h1 h2 h3).push (by unfold putT; rw [if_pos rfl]) bk ep has hm⟩⟩
  · refine (layNo_any (value := value) (has := has) hc o hL hl hkey hval hep h1).mono ?_
    rintro x w' ⟨F', rfl, h4⟩
    exact ⟨S, F', false, tx, st, rfl, h4, fun h => by cases h⟩
end Go.Proofs.YtmlnhjfdhjachaaGreat

/-
  Pairs behind changes; blocks that are kept beside a heap of the call's own. No condition.
-/
namespace Go.Proofs.YtmlnhjfdhjachaaGreat
set_option linter.unusedVariables false
open Go.ChangeShapes Go.WideShapes Go.ChangeAt Go.RowKit
open Go.ChangeMaps (setBlock)

theorem OwnK.hold {w0 w : World} {hb : Nat} {S : PHeap} {F : Nat → Prop} {K : List (Nat × Obj)} (h : OwnK w0 hb S F K w) {g : Nat} {o : Obj} (hg : w.heap[g]? = some o) (hF : ¬ F g) : OwnK w0 hb S F ((g, o) :: K) w := ⟨h.own, fun x hx => by
  rcases List.mem_cons.1 hx with rfl | hx
  · exact ⟨hg, hF⟩
  · exact h.keep x hx⟩
theorem OwnK.sub {w0 w : World} {hb : Nat} {S : PHeap} {F : Nat → Prop} {K K' : List (Nat × Obj)} (h : OwnK w0 hb S F K w) (hs : ∀ x ∈ K', x ∈ K) : OwnK w0 hb S F K' w := ⟨h.own, fun x hx => h.keep x (hs x hx)⟩
/-- A new row takes the old one's place. -/
theorem OwnK.row {w0 w w' : World} {hb : Nat} {S : PHeap} {F : Nat → Prop} {a b : Nat × Obj} (h : OwnK w0 hb S F [a, b] w) {g : Nat} {o : Obj} (hb' : Below w.heap.size w w') (hg : w'.heap[g]? = some o) (hs : w.heap.size ≤ g) : OwnK w0 hb S F [(g, o), b] w' :=
  ((h.below hb').hold hg (fun hF => by have := h.own.heap.own _ hF; omega)).sub fun x hx => by
    simp only [List.mem_cons, List.not_mem_nil, or_false] at hx ⊢
    rcases hx with hx | hx
    · exact .inl hx
    · exact .inr (.inr hx)
/-- The pairs behind a change at an epoch. -/
def nextP (m : List (ByteArray × ByteArray)) (ch : PChange) (le : Bool) : List (ByteArray × ByteArray) :=
  if le then (if ch.has then putP (geP ch.key) ch.key ch.value m false else delP m ch.key) else m
theorem nextP_get (m : List (ByteArray × ByteArray)) (ch : PChange) (le : Bool) (t : ByteArray) : getP (nextP m ch le) t = if t = ch.key ∧ le = true then (ch.has, if ch.has then ch.value else ByteArray.empty) else getP m t := by
  unfold nextP
  cases le with
  | false => simp
  | true =>
    cases hh : ch.has with
    | true =>
      simp only [if_true]
      rw [getP_put]
      by_cases ht : t = ch.key
      · simp [ht]
      · simp [ht]
    | false =>
      simp only [if_true, Bool.false_eq_true, if_false]
      rw [getP_del]
      by_cases ht : t = ch.key
      · simp [ht]
      · simp [ht]
theorem nextP_len (m : List (ByteArray × ByteArray)) (ch : PChange) (le : Bool) : (nextP m ch le).length ≤ m.length + 1 := by
  unfold nextP
  split
  · split
    · exact putP_len _ _ _ _ _
    · have : (delP m ch.key).length ≤ m.length := List.length_filter_le _ _
      omega
  · omega
def cfgO (c : PCfg) : Obj := Obj.cells #[.int .i64 c.cap, .int .i64 c.pins, .int .i64 c.shelves, .int .i64 c.queue, .int .i64 c.watchers, .int .u64 c.seed] 24
theorem al1_below {w w1 wr : World} {hb : Nat} {S : PHeap} {F : Nat → Prop} {K : List (Nat × Obj)} (hz : Below w.heap.size w w1) (o : OwnK w1 hb S F K wr) : Below w.heap.size w wr := hz.trans (o.own.below.mono hz.size)
end Go.Proofs.YtmlnhjfdhjachaaGreat

/-
  Two routines beside a heap of the call's own, and blocks that all leave alone. No condition.
-/
namespace Go.Proofs.YtmlnhjfdhjachaaGreat
set_option linter.unusedVariables false
open Go.ChangeShapes Go.WideShapes Go.ChangeAt Go.RowKit
open Go.ChangeMaps (setBlock)

structure Two {σ τ : Type} (R1 : Rout σ) (R2 : Rout τ) (w0 : World) (hb : Nat) (S : PHeap) (F : Nat → Prop) (K : List (Nat × Obj)) (b1 : Nat) (s1 : σ) (b2 : Nat) (s2 : τ) (w : World) : Prop where
  own : OwnK w0 hb S F K w
  rt : ∃ D1 D2, R1.R w D1 b1 s1 ∧ R2.R w D2 b2 s2 ∧ Off F D1 ∧ Off F D2 ∧ (∀ k, D1 k → ¬ D2 k) ∧ (∀ k, D1 k ∨ D2 k → w0.heap.size ≤ k) ∧ ∀ x ∈ K, ¬ D1 x.1 ∧ ¬ D2 x.1
section
variable {σ τ : Type} {R1 : Rout σ} {R2 : Rout τ} {w0 w w' : World} {hb b1 b2 : Nat} {S : PHeap} {F : Nat → Prop} {K : List (Nat × Obj)} {s1 : σ} {s2 : τ}
theorem Two.below (h : Two R1 R2 w0 hb S F K b1 s1 b2 s2 w) (hb' : Below w.heap.size w w') : Two R1 R2 w0 hb S F K b1 s1 b2 s2 w' := by
  obtain ⟨D1, D2, h1, h2, h3, h4, h5, h6, h7⟩ := h.rt
  exact ⟨h.own.below hb', D1, D2, R1.below h1 hb', R2.below h2 hb', h3, h4, h5, h6, h7⟩
theorem Two.add (h : Two R1 R2 w0 hb S F K b1 s1 b2 s2 w) (o : Obj) : Two R1 R2 w0 hb S F ((w.heap.size, o) :: K) b1 s1 b2 s2 (w.alloc o) := by
  obtain ⟨D1, D2, h1, h2, h3, h4, h5, h6, h7⟩ := h.rt
  refine ⟨h.own.add o, D1, D2, R1.below h1 (Below.more_ (Below.refl _ _) o), R2.below h2 (Below.more_ (Below.refl _ _) o), h3, h4, h5, h6, fun x hx => ?_⟩
  rcases List.mem_cons.1 hx with rfl | hx
  · exact ⟨fun hD => by have := R1.own h1 _ hD; simp only at this; omega, fun hD => by have := R2.own h2 _ hD; simp only at this; omega⟩
  · exact h7 x hx
/-- The second one was made behind the first one. -/
theorem Two.start {B : Nat} {w5 : World} (o : OwnK w0 hb S F K w) (hFB : ∀ k, F k → k < B) (hKB : ∀ x ∈ K, x.1 < B) (hB : w0.heap.size ≤ B) (h1 : RAt R1 B w5 b1 s1) (h5 : B ≤ w5.heap.size) (hbl : Below w5.heap.size w5 w) (h2 : RAt R2 w5.heap.size w b2 s2) : Two R1 R2 w0 hb S F K b1 s1 b2 s2 w := by
  obtain ⟨D1, k1, k2⟩ := h1
  obtain ⟨D2, j1, j2⟩ := h2
  refine ⟨o, D1, D2, R1.below k1 hbl, j1, fun k hF hD => by have := hFB k hF; have := k2 k hD; omega, fun k hF hD => by have := hFB k hF; have := j2 k hD; omega, fun k h1 h2 => by have := R1.own k1 k h1; have := j2 k h2; omega, fun k hk => ?_, fun x hx => ⟨fun hD => by have := hKB x hx; have := k2 _ hD; omega, fun hD => by have := hKB x hx; have := j2 _ hD; omega⟩⟩
  rcases hk with hk | hk
  · have := k2 k hk; omega
  · have := j2 k hk; omega
end
end Go.Proofs.YtmlnhjfdhjachaaGreat

/-
  The walk over the law that a view tells what a read tells (layer 27). No condition.
-/
namespace Go.Proofs.YtmlnhjfdhjachaaGreat
set_option linter.unusedVariables false
open Go.ChangeShapes Go.WideShapes Go.ChangeAt Go.RowKit
open Go.ChangeMaps (setBlock)

theorem view_most {c : PCfg} (h : c.Right) : c.shelves * (4 + 2 * ((30 : Nat) : Int)) + 20 ≤ 10000 := by
  have := h.shelves
  rw [show (4 + 2 * ((30 : Nat) : Int)) = 64 from by decide]
  omega
end Go.Proofs.YtmlnhjfdhjachaaGreat

/-
  A routine beside a heap of the call's own, and blocks that both leave alone. No condition.
-/
namespace Go.Proofs.YtmlnhjfdhjachaaGreat
set_option linter.unusedVariables false
open Go.ChangeShapes Go.WideShapes Go.ChangeAt Go.RowKit
open Go.ChangeMaps (setBlock)

structure Duo {σ : Type} (Rt : Rout σ) (w0 : World) (hb : Nat) (S : PHeap) (F : Nat → Prop) (K : List (Nat × Obj)) (b : Nat) (s : σ) (w : World) : Prop where
  own : OwnK w0 hb S F K w
  rt : ∃ D, Rt.R w D b s ∧ Off F D ∧ (∀ k, D k → w0.heap.size ≤ k) ∧ ∀ x ∈ K, ¬ D x.1
section
variable {σ : Type} {Rt : Rout σ} {w0 w w' : World} {hb b : Nat} {S : PHeap} {F : Nat → Prop} {K : List (Nat × Obj)} {s : σ}
theorem Duo.below (h : Duo Rt w0 hb S F K b s w) (hb' : Below w.heap.size w w') : Duo Rt w0 hb S F K b s w' := by
  obtain ⟨D, h1, h2, h3, h4⟩ := h.rt
  exact ⟨h.own.below hb', D, Rt.below h1 hb', h2, h3, h4⟩
theorem Duo.drew (h : Duo Rt w0 hb S F K b s w) : Duo Rt w0 hb S F K b s w.drew := h.below (Below.refl _ _).drew
theorem Duo.drewN (h : Duo Rt w0 hb S F K b s w) (n : Nat) : Duo Rt w0 hb S F K b s (w.drewN n) := h.below (below_drewN (Below.refl _ _) n)
theorem Duo.add (h : Duo Rt w0 hb S F K b s w) (o : Obj) : Duo Rt w0 hb S F ((w.heap.size, o) :: K) b s (w.alloc o) := by
  obtain ⟨D, h1, h2, h3, h4⟩ := (h.below (Below.more_ (Below.refl _ _) o)).rt
  obtain ⟨D, h1, h2, h3, h4⟩ := h.rt
  refine ⟨h.own.add o, D, Rt.below h1 (Below.more_ (Below.refl _ _) o), h2, h3, fun x hx => ?_⟩
  rcases List.mem_cons.1 hx with rfl | hx
  · exact fun hD => by have := Rt.own h1 _ hD; simp only at this; omega
  · exact h4 x hx
/-- The first one: a routine of the call's own, behind the heap and the blocks. -/
theorem Duo.start {B : Nat} (o : OwnK w0 hb S F K w) (hR : RAt Rt B w b s) (hFB : ∀ k, F k → k < B) (hKB : ∀ x ∈ K, x.1 < B) (hB : w0.heap.size ≤ B) : Duo Rt w0 hb S F K b s w := by
  obtain ⟨D, h1, h2⟩ := hR
  exact ⟨o, D, h1, fun k hF hD => by have := hFB k hF; have := h2 k hD; omega, fun k hD => Nat.le_trans hB (h2 k hD), fun x hx hD => by have := hKB x hx; have := h2 _ hD; omega⟩
end
end Go.Proofs.YtmlnhjfdhjachaaGreat

/-
  drive.Next on a heap of the call's own: which act it was that was done. No condition.
-/
namespace Go.Proofs.YtmlnhjfdhjachaaGreat
set_option linter.unusedVariables false
open Go.ChangeShapes Go.WideShapes Go.ChangeAt Go.RowKit
open Go.ChangeMaps (setBlock)

theorem next_own2 {σ : Type} (Rt : Rout σ) {w0 w : World} {hb b : Nat} {S : PHeap} {s : σ} {F D : Nat → Prop} (o : Own w0 hb S F w) (hR : Rt.R w D b s) (off : Off F D) (hD : ∀ k, D k → w0.heap.size ≤ k)
    (hf : S.faults < 9223372036854775807) (hla : S.last < 9223372036854775807) :
    Calls Tryz.prog 26 #[.pointer (some ⟨hb, 0, none⟩), .iface Rt.T (.pointer (some ⟨b, 0, none⟩))] w fun e w' => ∃ a g is, e = .returned (.tuple #[stepV 0 a g, .bool is]) ∧ (is = true → a = (Rt.act s).1) ∧ ∃ S' s' F' D', NextP Rt w0 w F D hb b S s S' s' F' D' is w' := by
  have went : ∀ {S' : PHeap} {s' : σ} {w' : World}, Went Rt F D hb b S' s' w w' → ∃ F' D', Own w0 hb S' F' w' ∧ Rt.R w' D' b s' ∧ Off F' D' ∧ (∀ k, F' k ∨ D' k → F k ∨ D k ∨ w.heap.size ≤ k) ∧ Chg (fun k => F k ∨ D k) w w' := by
    intro S' s' w' ⟨⟨F', D', k1, k2, k3, k4⟩, k5⟩
    have sub : ∀ k, F' k ∨ D' k → F k ∨ D k ∨ w.heap.size ≤ k := fun k hk => by
      rcases k4 k hk with (hk | hk) | hk
      · exact .inl hk
      · exact .inr (.inl hk)
      · exact .inr (.inr hk)
    refine ⟨F', D', ⟨k1, fun k hk => ?_, o.below.trans (k5.below (fun k hk => ?_) o.below.size)⟩, k2, k3, sub, k5⟩
    · rcases sub k (.inl hk) with hk | hk | hk
      · exact o.new k hk
      · exact hD k hk
      · have := o.below.size; omega
    · rcases hk with hk | hk
      · exact o.new k hk
      · exact hD k hk
  cases hy : (Rt.act s).2 with
  | false =>
    refine (next_stop Rt o.heap hR hy).mono fun e w' ⟨he, hb1⟩ => ⟨noAct, noGot, false, he, fun h => (by cases h), S, s, F, D, ⟨o.keep hb1, Rt.below hR hb1, off, fun k hk => by rcases hk with hk | hk; exact .inl hk; exact .inr (.inl hk), Chg.of_below hb1 _, .inl ⟨rfl, by unfold Rout.can; rw [hy]; rfl, rfl, rfl⟩⟩⟩
  | true =>
    cases hr : S.ready (Rt.act s).1 with
    | false =>
      refine (next_wait Rt o.heap hR off hf hy hr).mono fun e w' ⟨he, hw⟩ => ?_
      obtain ⟨F', D', k1, k2, k3, k4, k5⟩ := went hw
      exact ⟨noAct, noGot, false, he, fun h => (by cases h), S, s, F', D', ⟨k1, k2, k3, k4, k5, .inl ⟨rfl, by unfold Rout.can; rw [hr, Bool.and_false], rfl, rfl⟩⟩⟩
    | true =>
      refine (next_go Rt o.heap hR off hf hy hla hr).mono fun e w' ⟨r, he, hw⟩ => ?_
      obtain ⟨F', D', k1, k2, k3, k4, k5⟩ := went hw
      exact ⟨_, _, true, he, fun _ => rfl, _, _, F', D', ⟨k1, k2, k3, k4, k5, .inr ⟨rfl, by unfold Rout.can; rw [hy, hr]; rfl, r, rfl, rfl⟩⟩⟩
section
variable {σ : Type} {Rt : Rout σ} {w0 w w' : World} {hb b : Nat} {S : PHeap} {F : Nat → Prop} {K : List (Nat × Obj)} {s : σ}
theorem Duo.next2 (h : Duo Rt w0 hb S F K b s w) (hf : S.faults < 9223372036854775807) (hla : S.last < 9223372036854775807) :
    Calls Tryz.prog 26 #[.pointer (some ⟨hb, 0, none⟩), .iface Rt.T (.pointer (some ⟨b, 0, none⟩))] w fun e w' => ∃ a g is S' F' s', e = .returned (.tuple #[stepV 0 a g, .bool is]) ∧ Duo Rt w0 hb S' F' K b s' w' ∧ (is = true → a = (Rt.act s).1) ∧
      ((is = false ∧ Rt.can S s = false ∧ S' = S ∧ s' = s) ∨ (is = true ∧ Rt.can S s = true ∧ ∃ r, S' = (S.act (Rt.act s).1 r).2 ∧ s' = Rt.take s (S.act (Rt.act s).1 r).1)) := by
  obtain ⟨D, h1, h2, h3, h4⟩ := h.rt
  refine (next_own2 Rt h.own.own h1 h2 h3 hf hla).mono ?_
  rintro e w' ⟨a, g, is, he, hka, S', s', F', D', hN⟩
  have hnot : ∀ x ∈ K, ¬ F' x.1 ∧ ¬ D' x.1 := fun x hx => by
    have hk := h.own.keep x hx
    have hl := h.own.lt hx
    have h6 : ¬ (F' x.1 ∨ D' x.1) := fun hh => by
      rcases hN.sub _ hh with h5 | h5 | h5
      · exact hk.2 h5
      · exact h4 x hx h5
      · omega
    exact ⟨fun hh => h6 (.inl hh), fun hh => h6 (.inr hh)⟩
  refine ⟨a, g, is, S', F', s', he, ⟨⟨hN.own, fun x hx => ⟨?_, (hnot x hx).1⟩⟩, D', hN.rt, hN.off, fun k hk => ?_, fun x hx => (hnot x hx).2⟩, hka, hN.did⟩
  · have hk := h.own.keep x hx
    exact (hN.chg.block _ (h.own.lt hx) fun hh => by rcases hh with hh | hh; exact hk.2 hh; exact h4 x hx hh).trans hk.1
  · rcases hN.sub k (.inr hk) with h5 | h5 | h5
    · exact h.own.own.new k h5
    · exact h3 k h5
    · have := h.own.own.below.size; omega
end
end Go.Proofs.YtmlnhjfdhjachaaGreat
