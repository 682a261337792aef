/-
  The walk over the law of pinning alone (layer 25). No condition.
-/
import Derived.Test.YtpldnbdcpihjcaaPinB
namespace Go.Proofs.Ytpldnbdcpihjcaa
set_option linter.unusedVariables false
open Go.ChangeShapes Go.WideShapes Go.ChangeAt Go.RowKit
open Go.ChangeMaps (setBlock)

def pinsX (bs : List Bool) (k j : Nat) : Int := if j < k ∧ bs.getD j false = true then 9 else 0
def freeN (bs : List Bool) : Nat → Nat
  | 0 => 0
  | k + 1 => freeN bs k + (if bs.getD k false then 0 else 1)
theorem freeN_le (bs : List Bool) : ∀ k, freeN bs k ≤ k
  | 0 => Nat.le_refl _
  | k + 1 => by have := freeN_le bs k; unfold freeN; split <;> omega
theorem freeN_pos (bs : List Bool) : ∀ k j, j < k → bs.getD j false = false → 0 < freeN bs k
  | 0, j, h, _ => by omega
  | k + 1, j, h, hb => by
    unfold freeN
    by_cases hj : j = k
    · subst hj
      rw [hb]
      simp
    · have := freeN_pos bs k j (by omega) hb
      omega
theorem freeN_zero (bs : List Bool) : ∀ k, (∀ j, j < k → bs.getD j false = true) → freeN bs k = 0
  | 0, _ => rfl
  | k + 1, h => by
    unfold freeN
    rw [freeN_zero bs k fun j hj => h j (by omega), h k (by omega)]
    rfl
theorem pinsX_zero (bs : List Bool) : pinsX bs 0 = fun _ => 0 := by funext j; simp [pinsX]
theorem pinsX_same (bs : List Bool) (k : Nat) (h : bs.getD k false = false) : pinsX bs (k + 1) = pinsX bs k := by
  funext j
  unfold pinsX
  by_cases hj : j = k
  · subst hj
    rw [if_neg (by rw [h]; simp), if_neg (by rw [h]; simp)]
  · by_cases h2 : j < k ∧ bs.getD j false = true
    · rw [if_pos h2, if_pos ⟨by omega, h2.2⟩]
    · rw [if_neg h2, if_neg fun h3 => h2 ⟨by omega, h3.2⟩]
theorem pinsX_put (bs : List Bool) (k : Nat) (h : bs.getD k false = true) : pinsX bs (k + 1) = fun j => if j = k then 9 else pinsX bs k j := by
  funext j
  by_cases hj : j = k
  · subst hj
    simp only [if_true]
    unfold pinsX
    rw [if_pos ⟨by omega, h⟩]
  · simp only [hj, if_false]
    unfold pinsX
    by_cases h2 : j < k ∧ bs.getD j false = true
    · rw [if_pos h2, if_pos ⟨by omega, h2.2⟩]
    · rw [if_neg h2, if_neg fun h3 => h2 ⟨by omega, h3.2⟩]
/-- Between two rounds. -/
structure PAloneRel (w w1 : World) (c : PCfg) (bs : List Bool) (hb : Nat) (fv iv : Value) (wr : World) : Prop where
  ex : ∃ (k : Nat) (S : PHeap) (F : Nat → Prop), (k : Int) ≤ c.pins ∧ iv = .int .i64 k ∧ fv = .int .i64 (freeN bs k) ∧ Own w1 hb S F wr ∧ CtlAt S 0 0 ∧ PinsAt S (pinsX bs k) c.pins ∧ S.faults = 0 ∧ S.last = 1
  b0 : Blk wr w.heap.size 24 #[.int .i64 c.cap, .int .i64 c.pins, .int .i64 c.shelves, .int .i64 c.queue, .int .i64 c.watchers, .int .u64 c.seed]
set_option maxRecDepth 100000 in
set_option maxHeartbeats 8000000 in
theorem walkAlone25 (c : PCfg) (t : Int) (ht : 0 ≤ t ∧ t ≤ 255) (A : Option Addr) (len cap : Nat) (bs : List Bool) (hlen : bs.length = len) (hmax : len ≤ maxLen) (w : World) (hr : Reads w w.heap.size 1 A len (bs.map Value.bool)) :
    Calls Try.prog 9 #[c.val, .int .u8 t, .slice A len cap] w fun e w' => e = .returned (.bool true) ∧ Below w.heap.size w w' := by
  have hCV : c.val = .agg #[.int .i64 c.cap, .int .i64 c.pins, .int .i64 c.shelves, .int .i64 c.queue, .int .i64 c.watchers, .int .u64 c.seed] := rfl
  have hRR := fun W => right_cfg c W
  have hz : Below w.heap.size w (w.alloc (.cells #[.int .i64 c.cap, .int .i64 c.pins, .int .i64 c.shelves, .int .i64 c.queue, .int .i64 c.watchers, .int .u64 c.seed] 24)) := (Below.refl _ _).alloc (Nat.le_refl _) _
  have B0 := Blk.new w 24 #[.int .i64 c.cap, .int .i64 c.pins, .int .i64 c.shelves, .int .i64 c.queue, .int .i64 c.watchers, .int .u64 c.seed]
  replace hmax : len ≤ 9223372036854775807 := by unfold maxLen at hmax; omega
  have hNw : c.Right → ∀ W, _ := fun h W => pinNew_ok c h t ⟨ht.1, by omega⟩ W
  have hFd : c.Right → ∀ W, _ := fun h W => field_any c h W
  have hPp : ∀ (h : c.Right) (k : Nat) (hk : (k : Int) < c.pins), ∀ W, _ := fun h k hk W => planPin_any c h (k : Int) ⟨by omega, hk⟩ W
  have hFr : ∀ (h : c.Right) (k : Nat) (hk : (k : Int) < c.pins), ∀ W, _ := fun h k hk W => free_any c h (k : Int) ⟨by omega, hk⟩ W
  rw [hCV] at hNw hRR hFd hPp hFr ⊢
  clear hCV
  replace hNw := Lib.hid hNw
  replace hFd := Lib.hid hFd
  replace hPp := Lib.hid hPp
  replace hFr := Lib.hid hFr
  replace hr := Lib.hid hr
  replace hz := Lib.hid hz
  replace B0 := Lib.hid B0
  cases hright : c.right with
  | false =>
    rw [hright] at hRR
    replace hRR := Lib.hid hRR
    go_enter Try.func9, Try.ntmps9
    go_wp2_with fail
    refine (hRR.out _).mono ?_; rintro e w1 ⟨rfl, hb1⟩
    go_wp2_with fail
    refine (awake25 _).mono ?_; rintro e w7 ⟨rfl, hb7⟩
    go_wp2_with fail
    go_ret
    have h1 := nx hz.out (Nat.le_refl _) hb1
    exact ⟨rfl, h1.trans (hb7.mono h1.size)⟩
  | true =>
  rw [hright] at hRR
  have hR := (PCfg.right_iff c).1 hright
  have hp := hR.pins
  replace hRR := Lib.hid hRR
  go_enter Try.func9, Try.ntmps9
  go_wp2_with fail
  refine (hRR.out _).mono ?_; rintro e w1 ⟨rfl, hb1⟩
  have C1 := B0.out.below hb1 (by simp)
  have hz1 := nx hz.out (Nat.le_refl _) hb1
  have c0 := C1.cell 0
  have c1 := C1.cell 1
  have c2 := C1.cell 2
  have c3 := C1.cell 3
  have c4 := C1.cell 4
  have c5 := C1.cell 5
  clear hb1
  replace C1 := Lib.hid C1
  replace hz1 := Lib.hid hz1
  go_wp2_with fail
  refine (hFd.out hR _).mono ?_; rintro e w2 ⟨hb, r, rfl, s2⟩
  obtain ⟨F2, o2⟩ := Own.of_sess s2
  have C2 := C1.out.below s2.below C1.out.lt
  have hw1 := C1.out.lt
  clear s2 c0 c1 c2 c3 c4 c5
  replace o2 := Lib.hid o2
  replace C2 := Lib.hid C2
  go_wp2_with fail
  go_loopw [8, 9] (fun fv iv wr => PAloneRel w w1 c bs hb fv iv wr) (fun _ i _ => 9 - (intOf i).toNat)
  case atStart =>
    refine ⟨⟨0, fieldS c r, F2, by show (0 : Int) ≤ c.pins; omega, rfl, rfl, o2.out, field_ctl c r 0 (by have := (ctlSize_eq hR).2.1; omega), ?_, rfl, rfl⟩, C2.out⟩
    rw [pinsX_zero]
    exact field_pins c hR r
  case round =>
    obtain ⟨⟨k, S, F, hk, rfl, rfl, o, hc0, hpx, hft, hla⟩, b0⟩ := hrel
    have c0 := b0.cell 0
    have c1 := b0.cell 1
    have c2 := b0.cell 2
    have c3 := b0.cell 3
    have c4 := b0.cell 4
    have c5 := b0.cell 5
    have hs1 := b0.lt
    have hF := o.heap.own
    by_cases hkp : (k : Int) < c.pins
    · have d1 : decide ((k : Int) < c.pins) = true := by simp; omega
      have d2 : decide ((k : Int) < 8) = true := by simp; omega
      have hPk := hPp.out hR k hkp
      rw [show (3 : Int) + (k : Int) = ((3 + k : Nat) : Int) by omega] at hPk
      obtain ⟨ck, hck⟩ : ∃ ck : Nat, 3 + k = ck := ⟨_, rfl⟩
      rw [hck] at hPk
      have hCk := hpx k hkp
      rw [hck] at hCk
      replace hPk := Lib.hid hPk
      replace b0 := Lib.hid b0
      replace o := Lib.hid o
      replace hc0 := Lib.hid hc0
      replace hpx := Lib.hid hpx
      replace hck := Lib.hid hck
      replace hCk := Lib.hid hCk
      have hcase : (k < len ∧ bs.getD k false = true) ∨ (k < len ∧ bs.getD k false = false) ∨ (¬ k < len ∧ bs.getD k false = false) := by
        by_cases h1 : k < len
        · cases h2 : bs.getD k false with
          | true => exact .inl ⟨h1, rfl⟩
          | false => exact .inr (.inl ⟨h1, rfl⟩)
        · exact .inr (.inr ⟨h1, by rw [List.getD_eq_getElem?_getD, List.getElem?_eq_none (by omega)]; rfl⟩)
      rcases hcase with ⟨hlt, hbk⟩ | ⟨hlt, hbk⟩ | ⟨hlt, hbk⟩
      · have d3 : decide ((k : Int) < (len : Int)) = true := by simp; omega
        obtain ⟨ad, u, rfl, hadb, hu, hcell⟩ := hr.out.at_ hlt
        obtain ⟨z, hz9, rfl⟩ : ∃ z, bs[k]? = some z ∧ Value.bool z = u := by simpa using hu
        have hz9' : bs.getD k false = z := by rw [List.getD_eq_getElem?_getD, hz9]; rfl
        rw [hbk] at hz9'
        subst hz9'
        have hW : Below w.heap.size w wr := hz1.out.trans (o.out.below.mono hz1.out.size)
        have hcell' := keepc hW hadb hcell
        have i1 : (0 : Int) ≤ (k : Int) := by omega
        have i2 : (k : Int) < (len : Int) := by omega
        clear hu hz9 hcell hW
        replace hbk := Lib.hid hbk
        go_wp2_with fail
        refine (hPk.out _).mono ?_; rintro e w3 ⟨rfl, hb3⟩
        have o3 := o.out.keep hb3
        have C3 := b0.out.below hb3 b0.out.lt
        have hst := ctl_store o3.heap hCk.out 9 (by decide)
        clear hb3 c0 c1 c2 c3 c4 c5 hcell'
        replace o3 := Lib.hid o3
        replace C3 := Lib.hid C3
        replace hst := Lib.hid hst
        go_wp2_with fail
        refine (hst.out).mono ?_; rintro e w4 ⟨rfl, t4⟩
        have o4 := o3.out.turned t4
        have C4 := C3.out.keep (t4.2.block _ C3.out.lt (fun h => by have := o3.out.new _ h; omega))
        have hp4 := hpx.out.put k 9
        rw [← pinsX_put bs k hbk.out, hck.out] at hp4
        have hc4 := hc0.out.other (j := ck) 9 (by have := hck.out; omega)
        have hfr : freeN bs (k + 1) = freeN bs k := by show freeN bs k + _ = _; rw [hbk.out]; rfl
        clear t4
        replace o4 := Lib.hid o4
        replace C4 := Lib.hid C4
        replace hp4 := Lib.hid hp4
        replace hc4 := Lib.hid hc4
        replace hfr := Lib.hid hfr
        go_wp2_with fail
        go_roundw
        case rel => exact ⟨⟨k + 1, _, _, by omega, by go_num, by rw [hfr.out], o4.out, hc4.out, hp4.out, hft, hla⟩, C4.out⟩
        case measure => simp [intOf]; omega
      · have d3 : decide ((k : Int) < (len : Int)) = true := by simp; omega
        obtain ⟨ad, u, rfl, hadb, hu, hcell⟩ := hr.out.at_ hlt
        obtain ⟨z, hz9, rfl⟩ : ∃ z, bs[k]? = some z ∧ Value.bool z = u := by simpa using hu
        have hz9' : bs.getD k false = z := by rw [List.getD_eq_getElem?_getD, hz9]; rfl
        rw [hbk] at hz9'
        subst hz9'
        have hW : Below w.heap.size w wr := hz1.out.trans (o.out.below.mono hz1.out.size)
        have hcell' := keepc hW hadb hcell
        have i1 : (0 : Int) ≤ (k : Int) := by omega
        have i2 : (k : Int) < (len : Int) := by omega
        clear hu hz9 hcell hW
        have hfr : freeN bs (k + 1) = freeN bs k + 1 := by show freeN bs k + _ = _; rw [hbk]; rfl
        have hfl := freeN_le bs k
        have hp4 := hpx.out
        rw [← pinsX_same bs k hbk] at hp4
        replace hbk := Lib.hid hbk
        replace hfr := Lib.hid hfr
        replace hp4 := Lib.hid hp4
        go_wp2_with fail
        go_roundw
        case rel => exact ⟨⟨k + 1, _, _, by omega, by go_num, by rw [hfr.out]; go_num, o.out, hc0.out, hp4.out, hft, hla⟩, b0.out⟩
        case measure => simp [intOf]; omega
      · have d3 : decide ((k : Int) < (len : Int)) = false := by simp; omega
        have hfr : freeN bs (k + 1) = freeN bs k + 1 := by show freeN bs k + _ = _; rw [hbk]; rfl
        have hfl := freeN_le bs k
        have hp4 := hpx.out
        rw [← pinsX_same bs k hbk] at hp4
        replace hbk := Lib.hid hbk
        replace hfr := Lib.hid hfr
        replace hp4 := Lib.hid hp4
        go_wp2_with fail
        go_roundw
        case rel => exact ⟨⟨k + 1, _, _, by omega, by go_num, by rw [hfr.out]; go_num, o.out, hc0.out, hp4.out, hft, hla⟩, b0.out⟩
        case measure => simp [intOf]; omega
    · have d1 : decide ((k : Int) < c.pins) = false := by simp; omega
      have hke : (k : Int) = c.pins := by omega
      have hNt := hNw.out hR
      have e0 := PinsAt.other hpx
      have hfz : (freeN bs k = 0 ∧ ∀ j : Nat, (j : Int) < c.pins → bs.getD j false = true) ∨ (0 < freeN bs k ∧ ∃ j : Nat, (j : Int) < c.pins ∧ bs.getD j false = false) := by
        by_cases h : ∀ j, j < k → bs.getD j false = true
        · exact .inl ⟨freeN_zero bs k h, fun j hj => h j (by omega)⟩
        · simp only [Classical.not_forall] at h
          obtain ⟨j, hj, hjb⟩ := h
          have hjb' : bs.getD j false = false := by simpa using hjb
          exact .inr ⟨freeN_pos bs k j hj hjb', j, by omega, hjb'⟩
      have hfl := freeN_le bs k
      have hxz : ∀ j : Nat, (j : Int) < c.pins → (pinsX bs k j = 0 ↔ bs.getD j false = false) := fun j hj => by
        unfold pinsX
        have hjk : j < k := by omega
        cases bs.getD j false with
        | true => simp [hjk]
        | false => simp
      generalize pinsX bs k = x at *
      generalize freeN bs k = fr at *
      replace hNt := Lib.hid hNt
      replace o := Lib.hid o
      replace b0 := Lib.hid b0
      replace hc0 := Lib.hid hc0
      replace hpx := Lib.hid hpx
      replace hfz := Lib.hid hfz
      replace hxz := Lib.hid hxz
      clear e0
      have hk8 : k ≤ 8 := by omega
      go_wp2_with fail
      refine (hNt.out _).mono ?_; rintro e w3 ⟨b, rfl, hN3, hbb, hb3⟩
      have hA := alone_own (pinRout c) (o.out.keep hb3) (pinR_fresh hN3) (fun k h1 h2 => by have := hF k h1; omega) (fun k hk => by have := o.out.below.size; omega) (by rw [hft]; decide) (by rw [hla]; decide) 100 (by decide)
      have hsz3 := hb3.size
      have hbl3 := hN3.lies.blk.lt
      have C3 := b0.out.below hb3 b0.out.lt
      clear c0 c1 c2 c3 c4 c5
      replace hA := Lib.hid hA
      replace hN3 := Lib.hid hN3
      replace hb3 := Lib.hid hb3
      replace C3 := Lib.hid C3
      go_wp2_with fail
      refine (hA.out).mono ?_; rintro e w5 ⟨xs, S5, s5, F5, D5, hRun, hstop, _, rfl, o5, hR5, hnew5, hch5, hoff5⟩
      have hout := pin_alone hR ht.1 hc0.out hpx.out hRun (m := 100) hstop (by omega)
      have hC5 := C3.out.keep (hch5.block _ C3.out.lt (fun h => by
        rcases h with h | h
        · have := o.out.new _ h; omega
        · have := hs1; omega))
      have hF5 := o5.heap.own
      have hres := pinResult_any hR5.2.2.lies
      have hin5 := hR5.2.2.inv
      have hw5 : Below w.heap.size w w5 := hz1.out.trans (o5.below.mono hz1.out.size)
      clear hRun hstop hnew5
      replace hch5 := Lib.hid hch5
      replace hR5 := Lib.hid hR5
      replace o5 := Lib.hid o5
      replace hC5 := Lib.hid hC5
      replace hoff5 := Lib.hid hoff5
      replace hin5 := Lib.hid hin5
      replace hw5 := Lib.hid hw5
      rcases hout with ⟨j, i, ⟨i1, i2, _, _⟩, j1, j2, j3, j4, j5, j6, j7, j8⟩ | ⟨j1, j2, j3, j4, j5⟩
      · rw [show (!((pinRout c).act s5).2) = true from by show (!(PPin.act s5).2) = true; rw [PPin.act5 j3]; rfl]
        rw [PPin.result5 j3, j5, j6, j4] at hres
        have hfp : 0 < fr := by
          rcases hfz.out with ⟨_, h2⟩ | ⟨h1, _⟩
          · have h3 := h2 j j1
            rw [(hxz.out j j1).1 j2] at h3
            cases h3
          · exact h1
        have hfd : ((fr : Int) == 0) = false := by simp; omega
        have hnd : decide (c.pins + 5 < (xs.length : Int)) = false := by simp; omega
        have hwp : IntKind.i64.wrap (c.pins + 5) = c.pins + 5 := IntWalk.i64_in _ (by omega)
        have hxl : (xs.length : Int) ≤ 100 := by omega
        obtain ⟨cj, hcj⟩ : ∃ cj : Nat, 3 + j = cj := ⟨_, rfl⟩
        have hPj := hPp.out hR j j1
        have hFj := hFr.out hR j j1
        rw [show (3 : Int) + (j : Int) = ((3 + j : Nat) : Int) by omega, hcj] at hPj hFj
        have hctl : CtlAt S5 cj (IntKind.u64.wrap (0 + 1)) := by rw [j7, ← hcj]; exact (hpx.out j j1).same _
        have hft5 : S5.faults = 0 := by rw [j7]; exact hft
        have hla5 : S5.last = 1 := by rw [j7]; exact hla
        have hcj9 : cj ≤ 1000 := by omega
        generalize (xs.length : Nat) = n at *
        clear j2 j3 j4 j5 j6 j7 j8 i1 i2
        replace hres := Lib.hid hres
        replace hPj := Lib.hid hPj
        replace hFj := Lib.hid hFj
        replace hctl := Lib.hid hctl
        replace hcj := Lib.hid hcj
        as_aux_lemma =>
          go_wp2_with fail
          refine (hres.out).mono ?_; rintro e w6 ⟨rfl, hb6⟩
          have o6 := (o5.out.keep hb6).alloc (.cells #[.int .i64 j, .int .u64 0, .bool false] 76)
          have R6 := Blk.new w6 76 #[.int .i64 j, .int .u64 0, .bool false]
          have hC6 := (hC5.out.below hb6 hC5.out.lt).alloc (.cells #[.int .i64 j, .int .u64 0, .bool false] 76)
          have d0 := hC6.cell 0
          have d1 := hC6.cell 1
          have d2 := hC6.cell 2
          have d3 := hC6.cell 3
          have d4 := hC6.cell 4
          have d5 := hC6.cell 5
          have p0 := R6.cell 0
          have p1 := R6.cell 1
          have p2 := R6.cell 2
          have hsz6 := hb6.size
          have hF6 : ∀ k, F5 k → k < w6.heap.size := fun k hk => by have := hF5 k hk; omega
          clear hb6
          replace o6 := Lib.hid o6
          replace hC6 := Lib.hid hC6
          replace R6 := Lib.hid R6
          go_wp2_with fail
          refine (hFj.out _).mono ?_; rintro e w7 ⟨rfl, hb7⟩
          have o7 := o6.out.keep hb7
          have R7 := R6.out.below hb7 (by simp)
          have hC7 := hC6.out.below hb7 hC6.out.lt
          have hdo := do_ctl_store o7.heap hcj9 hctl.out 0 (by decide) hft5 (by rw [hla5]; decide)
          clear hb7 d0 d1 d2 d3 d4 d5 p0 p1 p2
          replace o7 := Lib.hid o7
          replace R7 := Lib.hid R7
          replace hC7 := Lib.hid hC7
          replace hdo := Lib.hid hdo
          go_wp2_with fail
          refine (hdo.out).mono ?_; rintro e w8 ⟨g8, rfl, t8⟩
          have o8 := o7.out.turned t8
          have R8 := R7.out.keep (t8.2.block _ R7.out.lt (fun h => by have := hF6 _ h; omega))
          have C8 := hC7.out.keep (t8.2.block _ hC7.out.lt (fun h => by have := o7.out.new _ h; omega))
          have hnR : ¬ nw F5 w7 w8 w6.heap.size := fun h => by
            rcases h with h | h
            · have := hF6 _ h; omega
            · have := R7.out.lt; omega
          have d0 := C8.cell 0
          have d1 := C8.cell 1
          have d2 := C8.cell 2
          have d3 := C8.cell 3
          have d4 := C8.cell 4
          have d5 := C8.cell 5
          have p0 := R8.cell 0
          have p1 := R8.cell 1
          have p2 := R8.cell 2
          have hctl8 : CtlAt (S5.set 1 cj 0) cj 0 := hctl.out.same 0
          have hft8 : (S5.set 1 cj 0).faults = 0 := hft5
          generalize S5.set 1 cj 0 = S8 at *
          generalize nw F5 w7 w8 = F8 at *
          clear t8
          replace o8 := Lib.hid o8
          replace R8 := Lib.hid R8
          replace C8 := Lib.hid C8
          replace hctl8 := Lib.hid hctl8
          go_wp2_with fail
          refine (hPj.out _).mono ?_; rintro e w9 ⟨rfl, hb9⟩
          have o9 := o8.out.keep hb9
          have hld := ctl_load o9.heap hctl8.out
          clear hb9 d0 d1 d2 d3 d4 d5 p0 p1 p2
          replace o9 := Lib.hid o9
          replace hld := Lib.hid hld
          go_wp2_with fail
          refine (hld.out).mono ?_; rintro e w10 ⟨rfl, t10⟩
          have o10 := o9.out.turned t10
          have hfa := faults_any o10.heap
          rw [hft8] at hfa
          clear t10
          replace o10 := Lib.hid o10
          replace hfa := Lib.hid hfa
          go_wp2_with fail
          refine (hfa.out).mono ?_; rintro e w11 ⟨rfl, rfl⟩
          go_wp2_with fail
          refine (awake25 _).mono ?_; rintro e w12 ⟨rfl, hb12⟩
          go_wp2_with fail
          go_ret
          exact ⟨rfl, Below.next_ (hz1.out.trans (o10.out.below.mono hz1.out.size)) hb12⟩
      · rw [show (!((pinRout c).act s5).2) = true from by show (!(PPin.act s5).2) = true; rw [PPin.act5 j2]; rfl]
        rw [PPin.result5 j2, j3] at hres
        have hfz0 : fr = 0 := by
          rcases hfz.out with ⟨h1, _⟩ | ⟨_, j, h1, h2⟩
          · exact h1
          · exact absurd ((hxz.out j h1).2 h2) (j1 j h1)
        subst hfz0
        have hnd : decide (c.pins + 5 < (xs.length : Int)) = false := by simp; omega
        have hwp : IntKind.i64.wrap (c.pins + 5) = c.pins + 5 := IntWalk.i64_in _ (by omega)
        have hwp1 : IntKind.i64.wrap (c.pins + 1) = c.pins + 1 := IntWalk.i64_in _ (by omega)
        have hne : ((xs.length : Int) == c.pins + 1) = true := by simp; omega
        have hxl : (xs.length : Int) ≤ 100 := by omega
        generalize s5.pin = rp at *
        generalize s5.epoch = re at *
        generalize (xs.length : Nat) = n at *
        clear j1 j2 j3 j4 j5
        replace hres := Lib.hid hres
        as_aux_lemma =>
          go_wp2_with fail
          refine (hres.out).mono ?_; rintro e w6 ⟨rfl, hb6⟩
          have R6 := Blk.new w6 76 #[.int .i64 rp, .int .u64 re, .bool true]
          have hC6 := (hC5.out.below hb6 hC5.out.lt).alloc (.cells #[.int .i64 rp, .int .u64 re, .bool true] 76)
          have hw6 := (Below.next_ hw5.out hb6).alloc (by have := hw5.out.size; have := hb6.size; omega) (.cells #[.int .i64 rp, .int .u64 re, .bool true] 76)
          have d0 := hC6.cell 0
          have d1 := hC6.cell 1
          have d2 := hC6.cell 2
          have d3 := hC6.cell 3
          have d4 := hC6.cell 4
          have d5 := hC6.cell 5
          have p0 := R6.cell 0
          have p1 := R6.cell 1
          have p2 := R6.cell 2
          clear hb6
          replace hC6 := Lib.hid hC6
          replace R6 := Lib.hid R6
          replace hw6 := Lib.hid hw6
          go_wp2_with fail
          refine (awake25 _).mono ?_; rintro e w12 ⟨rfl, hb12⟩
          go_wp2_with fail
          go_ret
          exact ⟨rfl, Below.next_ hw6.out hb12⟩
end Go.Proofs.Ytpldnbdcpihjcaa
