import Derived.Test.YtmlnhjfdhjachaaGreatTab6
import Derived.Test.YtmlnhjfdhjachaaGreatReadK
import Derived.Test.YtmlnhjfdhjachaaGreatViewL
import Derived.Test.YtmlnhjfdhjachaaGreatReadG
/-
  Two answers that are alike, with pairs (layers 6 and 16). No condition.
-/
namespace Go.Proofs.YtmlnhjfdhjachaaGreat
set_option linter.unusedVariables false
open Go.ChangeShapes Go.WideShapes Go.ChangeAt Go.RowKit
open Go.ChangeMaps (setBlock)

structure SameRel (w : World) (n : Nat) (iv : Value) (wr : World) : Prop where
  ex : ∃ k : Nat, k ≤ n ∧ iv = .int .i64 k
  below : Below w.heap.size w wr
set_option maxRecDepth 100000 in
set_option maxHeartbeats 2000000 in
theorem same06_any {w : World} {A A' : Option Addr} {n cap cap' : Nat} {m : List (ByteArray × ByteArray)} (hlen : m.length = n) (hn : n ≤ 1000) (hr : Reads w w.heap.size 2 A n (pairL m)) (hr' : Reads w w.heap.size 2 A' n (pairL m)) :
    Calls Tryz.prog 29 #[.slice A n cap, .slice A' n cap'] w fun e w' => e = .returned (.bool true) ∧ Below w.heap.size w w' := by
  replace hr := Lib.hid hr
  replace hr' := Lib.hid hr'
  replace hlen := Lib.hid hlen
  go_enter Tryz.func29, Tryz.ntmps29
  go_wp2_with fail
  go_loopw [5] (fun iv wr => SameRel w n iv wr) (fun i _ => n + 1 - (intOf i).toNat)
  case atStart => exact ⟨⟨0, Nat.zero_le _, rfl⟩, Below.refl _ _⟩
  case round =>
    obtain ⟨⟨k, hk, rfl⟩, hbl⟩ := hrel
    by_cases hlt : k < n
    · have d2 : decide ((k : Int) < (n : Int)) = true := by simpa using hlt
      obtain ⟨ad, p, rfl, hp, r0, r1⟩ := pair_at hr.out hbl hlt hlen.out
      obtain ⟨ad', p', rfl, hp', s0, s1⟩ := pair_at hr'.out hbl hlt hlen.out
      obtain rfl : p' = p := by rw [hp] at hp'; injection hp' with hp'; exact hp'.symm
      have i1 : (0 : Int) ≤ (k : Int) := by omega
      have i2 : (k : Int) < (n : Int) := by omega
      have hl63 : (k : Int) + 1 ≤ 9223372036854775807 := by omega
      have r1' : wr.cell? ⟨(ad.add (k * 2)).block, (ad.add (k * 2)).off + 1, none⟩ = some (.string p'.2) := by
        have e : (⟨(ad.add (k * 2)).block, (ad.add (k * 2)).off + 1, none⟩ : Addr) = (ad.add (k * 2)).add 1 := rfl
        rw [e, add_of_add]
        exact r1
      have s1' : wr.cell? ⟨(ad'.add (k * 2)).block, (ad'.add (k * 2)).off + 1, none⟩ = some (.string p'.2) := by
        have e : (⟨(ad'.add (k * 2)).block, (ad'.add (k * 2)).off + 1, none⟩ : Addr) = (ad'.add (k * 2)).add 1 := rfl
        rw [e, add_of_add]
        exact s1
      obtain ⟨pk, pv⟩ := p'
      simp only at r0 r1' s0 s1'
      clear r1 s1 hp'
      replace hp := Lib.hid hp
      replace hbl := Lib.hid hbl
      go_wp2_with fail
      go_quiet (fail)
      go_wp2_with fail
      go_roundw
      case rel => exact ⟨⟨k + 1, by omega, by go_num⟩, below_drewN hbl.out _⟩
      case measure => simp [intOf]; omega
    · have d2 : decide ((k : Int) < (n : Int)) = false := by simpa using hlt
      go_wp2_with fail
      go_ret
      exact ⟨rfl, hbl⟩
set_option maxRecDepth 100000 in
set_option maxHeartbeats 2000000 in
theorem same16p_any (code : Int) (took : Bool) (value : ByteArray) {w : World} {A A' : Option Addr} {n cap cap' : Nat} {m : List (ByteArray × ByteArray)} (hlen : m.length = n) (hn : n ≤ 1000) (hr : Reads w w.heap.size 2 A n (pairL m)) (hr' : Reads w w.heap.size 2 A' n (pairL m)) :
    Calls Tryz.prog 13 #[.agg #[.int .i64 code, .int .i64 0, .int .i64 0, .bool took, .string value, .slice A n cap, .int .i64 0, .slice none 0 0], .agg #[.int .i64 code, .int .i64 0, .int .i64 0, .bool took, .string value, .slice A' n cap', .int .i64 0, .slice none 0 0]] w fun e w' => e = .returned (.bool true) ∧ Below w.heap.size w w' := by
  have hz : Below w.heap.size w ((w.alloc (.cells #[.int .i64 code, .int .i64 0, .int .i64 0, .bool took, .string value, .slice A n cap, .int .i64 0, .slice none 0 0] 40)).alloc (.cells #[.int .i64 code, .int .i64 0, .int .i64 0, .bool took, .string value, .slice A' n cap', .int .i64 0, .slice none 0 0] 40)) := ((Below.refl _ _).alloc (Nat.le_refl _) _).alloc (by simp) _
  have h6 := fun W (hb : Below w.heap.size w W) => same06_any (cap := cap) (cap' := cap') hlen hn ((hr.below hb).more hb.size) ((hr'.below hb).more hb.size)
  have h6 := h6 _ hz
  have h7 := fun W => same07_nil W
  have B0 := (Blk.new w 40 #[.int .i64 code, .int .i64 0, .int .i64 0, .bool took, .string value, .slice A n cap, .int .i64 0, .slice none 0 0]).alloc (.cells #[.int .i64 code, .int .i64 0, .int .i64 0, .bool took, .string value, .slice A' n cap', .int .i64 0, .slice none 0 0] 40)
  have B1 := Blk.new (w.alloc (.cells #[.int .i64 code, .int .i64 0, .int .i64 0, .bool took, .string value, .slice A n cap, .int .i64 0, .slice none 0 0] 40)) 40 #[.int .i64 code, .int .i64 0, .int .i64 0, .bool took, .string value, .slice A' n cap', .int .i64 0, .slice none 0 0]
  simp only [World.size_alloc] at B1
  clear hr hr' hlen hn
  replace hz := Lib.hid hz
  replace h6 := Lib.hid h6
  replace h7 := Lib.hid h7
  replace B0 := Lib.hid B0
  replace B1 := Lib.hid B1
  go_enter Tryz.func13, Tryz.ntmps13
  go_wp2_with (first | (go_at_call 29; refine (h6.out).mono ?_; rintro e w1 ⟨rfl, hb1⟩; have hz1 := hz.out.trans (hb1.mono hz.out.size); have b0 := B0.out.below hb1 B0.out.lt; have b1 := B1.out.below hb1 B1.out.lt; have c7 := b0.cell 7; have d7 := b1.cell 7; have hl0 := b0.lt; have hl1 := b1.lt; replace hz1 := Lib.hid hz1; clear hb1 b0 b1) | (go_at_call 48; refine (h7.out _).mono ?_; rintro e w2 ⟨rfl, rfl⟩))
  go_ret
  exact ⟨by simp, hz1.out⟩
end Go.Proofs.YtmlnhjfdhjachaaGreat

/-
  The examples of the law of viewing (layer 27). No condition.
-/
namespace Go.Proofs.YtmlnhjfdhjachaaGreat
set_option linter.unusedVariables false
open Go.ChangeShapes Go.WideShapes Go.ChangeAt Go.RowKit
open Go.ChangeMaps (setBlock)

def aText : ByteArray := ⟨#[97]⟩
def vText : ByteArray := ⟨#[118]⟩
/-- The example's keys. -/
def tx1 : Nat → Option ByteArray := putT (fun _ => none) (plN tinyC kText 0) kText
def pA : Nat := (lookP aText (plN tinyC aText) tx1 tinyC.shelves.toNat 0).2.1.toNat
def st1 (bk : Int) : Nat → List PVersion := putS (fun _ => []) (plN tinyC kText 0) ⟨bk, 0, true, vText⟩
theorem pA_is : (lookP aText (plN tinyC aText) tx1 tinyC.shelves.toNat 0).1 = 2 ∧ (lookP aText (plN tinyC aText) tx1 tinyC.shelves.toNat 0).2.1 = pA ∧ tx1 pA = none ∧ (pA : Int) < tinyC.shelves := by
  exact ⟨by decide +kernel, by decide +kernel, by kernel_rfl, by decide +kernel⟩
theorem seen_ex (bk bk2 : Int) : putAll [] (seenAt 0 (putT tx1 pA aText) (putS (st1 bk) pA ⟨bk2, 0, false, ByteArray.empty⟩) tinyC.shelves.toNat) = [(kText, vText)] := by
  have h0 := know_none tinyC 0
  have h1 : (lookP kText (plN tinyC kText) (fun _ => none) tinyC.shelves.toNat 0).1 = 2 := by decide +kernel
  have h2 : (lookP kText (plN tinyC kText) (fun _ => none) tinyC.shelves.toNat 0).2.1 = (plN tinyC kText 0 : Nat) := by decide +kernel
  have k1 : Know tinyC tx1 (st1 bk) 0 [(kText, vText)] := (h0.put h1 h2 rfl).push (m' := [(kText, vText)]) (value := vText) (by unfold putT; rw [if_pos rfl]) bk 0 true fun t => by
    show (if kText = t then (true, vText) else (false, ByteArray.empty)) = _
    by_cases ht : t = kText
    · simp [ht]
    · rw [if_neg (fun h => ht h.symm), if_neg (fun h => ht h.1)]
      rfl
  obtain ⟨a1, a2, a3, a4⟩ := pA_is
  have k2 : Know tinyC (putT tx1 pA aText) (putS (st1 bk) pA ⟨bk2, 0, false, ByteArray.empty⟩) 0 [(kText, vText)] := (k1.put a1 a2 a3).push (m' := [(kText, vText)]) (value := ByteArray.empty) (by unfold putT; rw [if_pos rfl]) bk2 0 false fun t => by
    show (if kText = t then (true, vText) else (false, ByteArray.empty)) = _
    by_cases ht : t = aText
    · rw [ht]
      rw [if_neg (by decide), if_pos ⟨rfl, by decide⟩]
      rfl
    · rw [if_neg (show ¬ (t = aText ∧ (0 : Int) ≤ 0) from fun h => ht h.1)]
      rfl
  exact seen_is tiny_right k2 (List.pairwise_singleton _ _)
theorem putS_lenV (st : Nat → List PVersion) (p : Nat) (v : PVersion) (j : Nat) : (putS st p v j).length ≤ (st j).length + 1 := by
  unfold putS
  split
  · exact Nat.le_refl _
  · omega
theorem reads_pair (W : World) (a b : ByteArray) : Reads (W.alloc (.cells #[.string a, .string b] 90)) (W.alloc (.cells #[.string a, .string b] 90)).heap.size 2 (some ⟨W.heap.size, 0, none⟩) 1 (pairL [(a, b)]) := by
  refine ⟨rfl, fun _ => ⟨_, rfl, by simp, fun j u hu => ?_⟩⟩
  exact pair_cells W (.string a) (.string b) j u hu
theorem lay_k {W w0 : World} {hb : Nat} {S : PHeap} {F : Nat → Prop} {K : List (Nat × Obj)} (o : OwnK w0 hb S F K W) (hL : Laid S tinyC (fun _ => none) (fun _ => []) (fun _ => 0) 0) (hl : S.last ≤ 900) :
    Calls Tryz.prog 17 #[.pointer (some ⟨hb, 0, none⟩), .agg #[.int .i64 2, .int .i64 2, .int .i64 3, .int .i64 2, .int .i64 1, .int .u64 0], .int .u64 0, .agg #[.string ⟨#[107]⟩, .bool true, .string ⟨#[118]⟩]] W fun x w' => ∃ S' F' bk, x = .returned (.bool true) ∧ OwnK w0 hb S' F' K w' ∧ Laid S' tinyC tx1 (st1 bk) (fun _ => 0) 0 ∧ S'.last ≤ S.last + 2 :=
  layFree_any (key := kText) (value := vText) (has := true) (ep := 0) tiny_right o hL hl (by decide) (by decide) (by decide) (plN tinyC kText 0) (plN_eq tiny_right kText 0).2 (by rw [fresh_look _ tiny_right]) (by rw [fresh_look _ tiny_right]) rfl
theorem lay_a {W w0 : World} {hb : Nat} {S : PHeap} {F : Nat → Prop} {K : List (Nat × Obj)} {bk : Int} (o : OwnK w0 hb S F K W) (hL : Laid S tinyC tx1 (st1 bk) (fun _ => 0) 0) (hl : S.last ≤ 900) :
    Calls Tryz.prog 17 #[.pointer (some ⟨hb, 0, none⟩), .agg #[.int .i64 2, .int .i64 2, .int .i64 3, .int .i64 2, .int .i64 1, .int .u64 0], .int .u64 0, .agg #[.string ⟨#[97]⟩, .bool false, .string ⟨#[]⟩]] W fun x w' => ∃ S' F' bk2, x = .returned (.bool true) ∧ OwnK w0 hb S' F' K w' ∧ Laid S' tinyC (putT tx1 pA aText) (putS (st1 bk) pA ⟨bk2, 0, false, ByteArray.empty⟩) (fun _ => 0) 0 ∧ S'.last ≤ S.last + 2 :=
  layFree_any (key := aText) (value := ByteArray.empty) (has := false) (ep := 0) tiny_right o hL hl (by decide) (by decide) (by decide) pA pA_is.2.2.2 pA_is.1 pA_is.2.1 pA_is.2.2.1
theorem view_ex0 {S S' : PHeap} {s' : PView} {xs : List (PAct × PGot)} (hL : Laid S tinyC (fun _ => none) (fun _ => []) (fun _ => 0) 0) (hr : Runs viewRout S (newView tinyC 0) xs S' s') (hs : (99 : Int) ≤ (xs.length : Nat) ∨ viewRout.can S' s' = false) : s'.part = 6 ∧ s'.mark = 3 ∧ s'.code = 0 ∧ s'.out = [] ∧ Laid S' tinyC (fun _ => none) (fun _ => []) (fun _ => 0) 0 ∧ S'.last = S.last ∧ xs.length = 7 := by
  obtain ⟨h1, h2, h3, h4, h5, h6, h7, h8⟩ := view_alone tiny_right (by decide) hL (fun _ _ => rfl) 0 (by decide) (fun _ => Nat.le_refl _) hr hs (by decide)
  refine ⟨h1, h4, h2, ?_, h5, h6, h8⟩
  unfold PView.out
  rw [h2, if_pos rfl, h3]
  rfl
theorem view_ex1 {S S' : PHeap} {s' : PView} {xs : List (PAct × PGot)} {bk bk2 : Int} (hL : Laid S tinyC (putT tx1 pA aText) (putS (st1 bk) pA ⟨bk2, 0, false, ByteArray.empty⟩) (fun _ => 0) 0) (hr : Runs viewRout S (newView tinyC 1) xs S' s') (hs : (99 : Int) ≤ (xs.length : Nat) ∨ viewRout.can S' s' = false) : s'.part = 6 ∧ s'.out = [(kText, vText)] := by
  obtain ⟨h1, h2, h3, h4, h5, h6, h7, h8⟩ := view_alone tiny_right (by decide) hL (fun _ _ => rfl) 2 (by decide) (fun j => by
    have e1 := putS_lenV (st1 bk) pA ⟨bk2, 0, false, ByteArray.empty⟩ j
    have e2 := putS_lenV (fun _ => []) (plN tinyC kText 0) ⟨bk, 0, true, vText⟩ j
    unfold st1 at e1 ⊢
    simp only [List.length_nil] at e2
    omega) hr hs (by decide)
  refine ⟨h1, ?_⟩
  unfold PView.out
  rw [h2, if_pos rfl, h3]
  exact seen_ex bk bk2
set_option maxRecDepth 100000 in
set_option maxHeartbeats 4000000 in
theorem awake27 (w : World) : Calls Tryz.prog 7 #[] w fun e w' => e = .returned (.bool true) ∧ Below w.heap.size w w' := by
  have hFd := fun W => field_any tinyC tiny_right W
  have hN0 := fun W => viewNew_at tinyC 0 (by decide) W
  have hN1 := fun W => viewNew_at tinyC 1 (by decide) W
  have hAn := fun W => viewAct_nil W
  rw [tinyVR] at hFd hN0 hN1
  replace hFd := Lib.hid hFd
  replace hN0 := Lib.hid hN0
  replace hN1 := Lib.hid hN1
  replace hAn := Lib.hid hAn
  go_enter Tryz.func7, Tryz.ntmps7
  go_wp2_with fail
  refine (tiny_any _).mono ?_; rintro e w1 ⟨rfl, hb1⟩
  have B1 := Blk.new w1 24 #[.int .i64 2, .int .i64 2, .int .i64 3, .int .i64 2, .int .i64 1, .int .u64 0]
  have hz1 : Below w.heap.size w (w1.alloc (.cells #[.int .i64 2, .int .i64 2, .int .i64 3, .int .i64 2, .int .i64 1, .int .u64 0] 24)) := hb1.alloc hb1.size _
  clear hb1
  replace B1 := Lib.hid B1
  replace hz1 := Lib.hid hz1
  go_wp2_with fail
  refine (hFd.out _).mono ?_; rintro e w2 ⟨hb, r, rfl, s2⟩
  obtain ⟨F2, o2⟩ := Own.of_sess s2
  have hF2 := o2.heap.own
  have hz2 := o2.below.size
  simp only [World.size_alloc] at hz2
  have k2 : OwnK (w1.alloc (.cells #[.int .i64 2, .int .i64 2, .int .i64 3, .int .i64 2, .int .i64 1, .int .u64 0] 24)) hb (fieldS tinyC r) F2 [(w1.heap.size, Obj.cells #[.int .i64 2, .int .i64 2, .int .i64 3, .int .i64 2, .int .i64 1, .int .u64 0] 24)] w2 := ⟨o2, fun x hx => by
    rw [List.mem_singleton.1 hx]
    exact ⟨B1.out.below o2.below (by simp), fun h => by have := o2.new _ h; simp only [World.size_alloc] at this; omega⟩⟩
  have C2 := k2.blk (List.mem_singleton.2 rfl)
  have d0 := C2.cell 0
  have d1 := C2.cell 1
  have d2 := C2.cell 2
  have d3 := C2.cell 3
  have d4 := C2.cell 4
  have d5 := C2.cell 5
  clear s2 C2
  replace o2 := Lib.hid o2
  replace k2 := Lib.hid k2
  go_wp2_with fail
  refine (hN0.out _).mono ?_; rintro e w3 ⟨b, rfl, hR3, hb3⟩
  have k3 := k2.out.below hb3
  have hA3 := ralone viewRout k3 hR3 hF2 (fun x hx => by rw [List.mem_singleton.1 hx]; show w1.heap.size < w2.heap.size; omega) (by simp only [World.size_alloc]; omega) (by show (0 : Int) ≤ _; decide) (by show (1 : Int) ≤ _; decide) 99 (by decide)
  clear hb3 d0 d1 d2 d3 d4 d5
  replace k3 := Lib.hid k3
  replace hR3 := Lib.hid hR3
  replace hA3 := Lib.hid hA3
  go_wp2_with fail
  refine (hA3.out).mono ?_; rintro e w4 ⟨xs, S4, s4, F4, D4, hRun, hstop, rfl, k4, hR4, hoff4⟩
  obtain ⟨h41, h42, h43, h44, h46, h47, h48⟩ := view_ex0 (field_laid tinyC tiny_right r) hRun hstop
  have hRs := viewTold_any hR4.2.2
  have hact4 : (viewRout.act s4).2 = false := by show (PView.act s4).2 = false; rw [PView.act6 h41]
  unfold ViewTold at hRs
  rw [h44, h43, h42] at hRs
  simp only [h41, if_true] at hRs
  rw [h48, hact4]
  have hl4 : S4.last = 1 := by rw [h47]; rfl
  clear hRun hstop hA3 h41 h42 h43 h44 h47 h48 hact4 hoff4 hR4
  replace k4 := Lib.hid k4
  replace hRs := Lib.hid hRs
  replace h46 := Lib.hid h46
  replace hl4 := Lib.hid hl4
  go_wp2_with fail
  refine (hRs.out).mono ?_; rintro e w5 ⟨vA, vc, rfl, _, hb5⟩
  have k5 := (k4.out.below hb5).add (.cells #[.int .i64 0, .int .i64 0, .int .i64 0, .bool false, .string ⟨#[]⟩, .slice vA 0 vc, .int .i64 0, .slice none 0 0, .int .i64 3, .int .u64 0] 42)
  have C5 := k5.blk (List.mem_cons_of_mem _ (List.mem_singleton.2 rfl))
  have d0 := C5.cell 0
  have d1 := C5.cell 1
  have d2 := C5.cell 2
  have d3 := C5.cell 3
  have d4 := C5.cell 4
  have d5 := C5.cell 5
  have hLw := lay_k k5 h46.out (by rw [hl4.out]; decide)
  clear hb5 hRs C5
  replace k5 := Lib.hid k5
  replace hLw := Lib.hid hLw
  go_wp2_with fail
  refine (hLw.out).mono ?_; rintro e w6 ⟨S6, F6, bk, rfl, k6, hL6, hl6⟩
  have C6 := k6.blk (List.mem_cons_of_mem _ (List.mem_singleton.2 rfl))
  clear d0 d1 d2 d3 d4 d5
  have d0 := C6.cell 0
  have d1 := C6.cell 1
  have d2 := C6.cell 2
  have d3 := C6.cell 3
  have d4 := C6.cell 4
  have d5 := C6.cell 5
  have hl6' : S6.last ≤ 3 := by have := hl4.out; omega
  have hLw6 := lay_a k6 hL6 (by omega)
  clear hl6 C6
  replace k6 := Lib.hid k6
  replace hL6 := Lib.hid hL6
  replace hLw6 := Lib.hid hLw6
  go_wp2_with fail
  refine (hLw6.out).mono ?_; rintro e w66 ⟨S66, F66, bk2, rfl, k66, hL66, hl66⟩
  have C66 := k66.blk (List.mem_cons_of_mem _ (List.mem_singleton.2 rfl))
  clear d0 d1 d2 d3 d4 d5
  have d0 := C66.cell 0
  have d1 := C66.cell 1
  have d2 := C66.cell 2
  have d3 := C66.cell 3
  have d4 := C66.cell 4
  have d5 := C66.cell 5
  have hl66' : S66.last ≤ 5 := by omega
  have hft6 := hL66.faults
  have hF6 := k66.own.heap.own
  have hz6 := k66.own.below.size
  simp only [World.size_alloc] at hz6
  have hk6 := fun x hx => k66.lt (x := x) hx
  clear C66 hl66
  replace k66 := Lib.hid k66
  replace hL66 := Lib.hid hL66
  replace hft6 := Lib.hid hft6
  replace hk6 := Lib.hid hk6
  go_wp2_with fail
  refine (hN1.out _).mono ?_; rintro e w7 ⟨b7, rfl, hR7, hb7⟩
  have k7 := k66.out.below hb7
  have hA7 := ralone viewRout k7 hR7 hF6 hk6.out (by simp only [World.size_alloc]; omega) (by rw [hft6.out]; decide) (by omega) 99 (by decide)
  clear hb7 d0 d1 d2 d3 d4 d5
  replace k7 := Lib.hid k7
  replace hR7 := Lib.hid hR7
  replace hA7 := Lib.hid hA7
  go_wp2_with fail
  refine (hA7.out).mono ?_; rintro e w8 ⟨xs8, S8, s8, F8, D8, hRun, hstop, rfl, k8, hR8, hoff8⟩
  obtain ⟨h81, h82⟩ := view_ex1 hL66.out hRun hstop
  have hRs := viewTold_any hR8.2.2
  unfold ViewTold at hRs
  rw [h82] at hRs
  simp only [h81, if_true] at hRs
  clear hRun hstop hA7 h81 h82 hoff8 hR8
  replace k8 := Lib.hid k8
  replace hRs := Lib.hid hRs
  go_wp2_with fail
  refine (hRs.out).mono ?_; rintro e w9 ⟨vA9, vc9, rfl, hown9, hb9⟩
  have k9 := (k8.out.below hb9).add (.cells #[.int .i64 s8.code, .int .i64 0, .int .i64 0, .bool false, .string ⟨#[]⟩, .slice vA9 1 vc9, .int .i64 0, .slice none 0 0, .int .i64 s8.mark, .int .u64 0] 42)
  have hr9 := Reads.of_own hown9
  clear hb9 hRs hown9
  replace k9 := Lib.hid k9
  replace hr9 := Lib.hid hr9
  go_wp2_with fail
  refine (hAn.out _).mono ?_; rintro e w10 ⟨rfl, hb10⟩
  have k10 := (k9.out.below hb10).add (.cells #[.int .i64 0, .int .u64 0, .int .i64 0, .int .u64 0, .int .u64 0, .string ⟨#[]⟩] 31)
  have hr10 : Reads (w10.alloc (.cells #[.int .i64 0, .int .u64 0, .int .i64 0, .int .u64 0, .int .u64 0, .string ⟨#[]⟩] 31)) w9.heap.size 2 vA9 1 (pairL [(kText, vText)]) := by
    have h1 := (hr9.out.alloc (Nat.le_refl _) (.cells #[.int .i64 s8.code, .int .i64 0, .int .i64 0, .bool false, .string ⟨#[]⟩, .slice vA9 1 vc9, .int .i64 0, .slice none 0 0, .int .i64 s8.mark, .int .u64 0] 42))
    have h2 := h1.below (hb10.mono (by simp))
    have h3 := hb10.size
    simp only [World.size_alloc] at h3
    exact h2.alloc (by omega) _
  have hsz10 : w9.heap.size < w10.heap.size := by have h3 := hb10.size; simp only [World.size_alloc] at h3; omega
  have P10 := k10.blk (List.mem_cons_of_mem _ (List.mem_cons_of_mem _ (List.mem_cons_self ..)))
  have Q10 := k10.blk (List.mem_cons_of_mem _ (List.mem_cons_self ..))
  have p5 := P10.cell 5
  have p8 := P10.cell 8
  have q5 := Q10.cell 5
  have hl2 := P10.lt
  have hl3 := Q10.lt
  have hrp := reads_pair (w10.alloc (.cells #[.int .i64 0, .int .u64 0, .int .i64 0, .int .u64 0, .int .u64 0, .string ⟨#[]⟩] 31)) ⟨#[107]⟩ ⟨#[118]⟩
  have e10 : (w10.alloc (.cells #[.int .i64 0, .int .u64 0, .int .i64 0, .int .u64 0, .int .u64 0, .string ⟨#[]⟩] 31)).heap.size = w10.heap.size + 1 := World.size_alloc _ _
  rw [e10] at hrp
  have hSm := same06_any (cap := vc9) (cap' := 1) (m := [(kText, vText)]) rfl (by decide) ((hr10.alloc (by rw [e10]; omega) _).more (by rw [World.size_alloc, e10]; omega)) hrp
  replace e10 := Lib.hid e10
  replace hrp := Lib.hid hrp
  clear hb10 P10 Q10
  replace k10 := Lib.hid k10
  replace hSm := Lib.hid hSm
  replace hr10 := Lib.hid hr10
  go_wp2_with fail
  refine (hSm.out).mono ?_; rintro e w11 ⟨rfl, hb11⟩
  have k11 := Below.next_ (Below.more_ k10.out.own.below (.cells #[.string ⟨#[107]⟩, .string ⟨#[118]⟩] 90)) hb11
  replace k11 := Lib.hid k11
  clear hb11 hSm
  go_wp2_with fail
  go_ret
  exact ⟨rfl, hz1.out.trans (k11.out.mono hz1.out.size)⟩
end Go.Proofs.YtmlnhjfdhjachaaGreat
