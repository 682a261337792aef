/-
  The walk over the law of handing in's acts (layer 29). No condition.
-/
import Derived.Test.YtfelkkbgbgnpaaaHandG
import Derived.Test.YtfelkkbgbgnpaaaHandF
import Derived.Test.YtfelkkbgbgnpaaaRAt
import Derived.Test.YtfelkkbgbgnpaaaTapeE
namespace Go.Proofs.Ytfelkkbgbgnpaaa
set_option linter.unusedVariables false
open Go.ChangeShapes Go.WideShapes Go.ChangeAt Go.RowKit
open Go.ChangeMaps (setBlock)

theorem hand_is (s : PHand) (h : s.act.2 = !s.result.2) (hm : s.act.2 = false) : s.act.1 = noAct := by
  unfold PHand.act PHand.result at *
  split at hm
  · cases hm
  · split at hm
    · rename_i h2
      rw [if_neg (by omega), if_pos h2, if_neg (by omega)] at h
      rw [hm] at h
      cases h
    · split at hm
      · cases hm
      · rename_i h1 h2 h3
        rw [if_neg h1, if_neg h2, if_neg h3]
theorem HandAt_is {B b : Nat} {W : World} {s : PHand} (h : RAt handRout B W b s) (h0 : s.part ≠ 0) : s.result.2 = !s.act.2 := by
  obtain ⟨Q, ⟨_, _, pv, _, _, _, _, hc⟩, _⟩ := h
  rcases hc with ⟨e, _⟩ | ⟨hI, _⟩
  · exact absurd e h0
  · have hp := hI.part
    have hcase : s.part = 1 ∨ s.part = 2 ∨ s.part = 3 ∨ s.part = 4 := by omega
    unfold PHand.result PHand.act
    rcases hcase with e | e | e | e
    · simp [e]
    · have h1 := (hI.goes e).1
      have h2 : s.res.act.2 = true := by
        have h3 := hI.rcfg.2
        unfold PRes.act PRes.idle
        rw [h1, h3]
        simp
        split <;> rfl
      simp [e, h2]
    · simp [e]
    · simp [e]
theorem hand_part (s : PHand) (h : s.part ≠ 0) (g : PGot) : (s.take g).part ≠ 0 := by
  unfold PHand.take
  split
  · simp
  · split
    · unfold PHand.settle
      simp only
      split
      · split <;> simp
      · exact h
    · split
      · simp
      · exact h
theorem feed_part (s0 : PHand) (h : s0.part ≠ 0) : ∀ Q : List PGot, (feed PHand.take s0 Q).part ≠ 0
  | [] => h
  | g :: Q => feed_part (s0.take g) (hand_part s0 h g) Q
theorem HandAt.result {B b : Nat} {W : World} {s : PHand} (h : RAt handRout B W b s) : Calls Try.prog 37 #[.pointer (some ⟨b, 0, none⟩)] W fun e w' => e = .returned (.tuple #[.agg #[.bool s.result.1.1, .int .i64 s.result.1.2.1, .int .u64 s.result.1.2.2], .bool s.result.2]) ∧ Below W.heap.size W w' := by
  obtain ⟨Q, h1, _⟩ := h
  exact handResult_any h1.2.2
theorem handNew_at (c : PCfg) (text : ByteArray) (htx : text.size ≤ 9223372036854775807) (w : World) : Calls Try.prog 35 #[c.val, .string text] w fun e w' => ∃ b, e = .returned (.pointer (some ⟨b, 0, none⟩)) ∧ RAt handRout w.heap.size w' b (newHand c text) ∧ Below w.heap.size w w' := by
  refine (handNew_any c text htx w).mono ?_
  rintro e w' ⟨b, he, h1, h2, h3⟩
  exact ⟨b, he, ⟨_, handR_fresh h2 h1.lt h1, fun k hk => hk.1⟩, h3⟩
/-- Between two rounds. -/
structure HActsRel (w : World) (len : Nat) (gs : List PGot) (c : PCfg) (text : ByteArray) (b : Nat) (i : Value) (wr : World) : Prop where
  ex : ∃ k : Nat, k ≤ len + 1 ∧ i = .int .i64 k ∧ RAt handRout (w.heap.size + 1) wr b (feed PHand.take (newHand c text) (gs.take k))
  b0 : Blk wr w.heap.size 24 #[.int .i64 c.cap, .int .i64 c.pins, .int .i64 c.shelves, .int .i64 c.queue, .int .i64 c.watchers, .int .u64 c.seed]
  below : Below w.heap.size w wr
set_option maxRecDepth 100000 in
set_option maxHeartbeats 8000000 in
theorem walkActs29 (A : Option Addr) (len cap : Nat) (hlc : len ≤ cap) (gs : List PGot) (hlen : gs.length = len) (hok : ∀ g ∈ gs, g.Ok) (c : PCfg) (text : ByteArray) (hkz : text.size ≤ 9223372036854775807) (w : World) (hr : Reads w w.heap.size 2 A len (gotL gs)) :
    Calls Try.prog 6 #[c.val, .string text, .slice A len cap] w fun e w' => e = .returned (.bool true) ∧ Below w.heap.size w w' := by
  have hCV : c.val = .agg #[.int .i64 c.cap, .int .i64 c.pins, .int .i64 c.shelves, .int .i64 c.queue, .int .i64 c.watchers, .int .u64 c.seed] := rfl
  have hRR := fun W => refRight_any c W
  have hz : Below w.heap.size w (w.alloc (.cells #[.int .i64 c.cap, .int .i64 c.pins, .int .i64 c.shelves, .int .i64 c.queue, .int .i64 c.watchers, .int .u64 c.seed] 24)) := (Below.refl _ _).alloc (Nat.le_refl _) _
  have B0 := Blk.new w 24 #[.int .i64 c.cap, .int .i64 c.pins, .int .i64 c.shelves, .int .i64 c.queue, .int .i64 c.watchers, .int .u64 c.seed]
  by_cases hbig : 60 < len
  · have d1 : decide ((60 : Int) < (len : Int)) = true := by simp; omega
    rw [hCV]
    go_enter Try.func6, Try.ntmps6
    go_wp2_with fail
    refine (awake29 _).mono ?_; rintro e w7 ⟨rfl, hb7⟩
    go_wp2_with fail
    go_ret
    exact ⟨rfl, hz.trans (hb7.mono hz.size)⟩
  have d1 : decide ((60 : Int) < (len : Int)) = false := by simp; omega
  by_cases hlong : 500 < text.size
  · have d2 : decide ((500 : Int) < (text.size : Int)) = true := by simp; omega
    rw [hCV]
    go_enter Try.func6, Try.ntmps6
    go_wp2_with fail
    refine (awake29 _).mono ?_; rintro e w7 ⟨rfl, hb7⟩
    go_wp2_with fail
    go_ret
    exact ⟨rfl, hz.trans (hb7.mono hz.size)⟩
  have d2 : decide ((500 : Int) < (text.size : Int)) = false := by simp; omega
  have hNw := fun W => handNew_at c text hkz W
  cases hright : c.right with
  | false =>
    have hn : newHand c text = ⟨noCfgH, ByteArray.empty, 0, newRes noCfgH, false, 0, 0⟩ := by unfold newHand; rw [if_neg (by rw [hright]; decide)]
    have hna : (newHand c text).act = (noAct, false) := by rw [hn]; rfl
    have hnr : (newHand c text).result = ((false, 0, 0), false) := by rw [hn]; rfl
    rw [hright] at hRR
    rw [hCV] at hNw hRR ⊢
    generalize newHand c text = N at *
    clear hn
    replace hNw := Lib.hid hNw
    replace hRR := Lib.hid hRR
    replace hr := Lib.hid hr
    replace hz := Lib.hid hz
    replace B0 := Lib.hid B0
    replace hright := Lib.hid hright
    replace hna := Lib.hid hna
    replace hnr := Lib.hid hnr
    clear hCV
    go_enter Try.func6, Try.ntmps6
    go_wp2_with fail
    refine (hNw.out _).mono ?_; rintro e w1 ⟨b, rfl, hV, hbl⟩
    have B1 := B0.out.below hbl (by simp)
    have hz1 := nx hz.out (Nat.le_refl _) hbl
    have c0 := B1.cell 0
    have c1 := B1.cell 1
    have c2 := B1.cell 2
    have c3 := B1.cell 3
    have c4 := B1.cell 4
    have c5 := B1.cell 5
    clear hbl
    replace hV := Lib.hid hV
    replace B1 := Lib.hid B1
    replace hz1 := Lib.hid hz1
    go_wp2_with fail
    refine (hRR.out _).mono ?_; rintro e w2 ⟨rfl, hb2⟩
    have V2 := hV.out.below hb2
    have hz2 := nx hz1.out (Nat.le_refl _) hb2
    clear hb2 c0 c1 c2 c3 c4 c5
    replace hz2 := Lib.hid hz2
    have hAc : Calls Try.prog 36 _ _ _ := V2.act
    change Calls Try.prog _ _ _ (fun e w' => e = .returned (.tuple #[N.act.1.val, .bool N.act.2]) ∧ _) at hAc
    rw [hna.out] at hAc
    change Calls Try.prog _ _ _ (fun e w' => e = .returned (.tuple #[.agg #[.int .i64 0, .int .u64 0, .int .i64 0, .int .u64 0, .int .u64 0, .string ⟨#[]⟩], .bool false]) ∧ _) at hAc
    replace V2 := Lib.hid V2
    replace hAc := Lib.hid hAc
    go_wp2_with fail
    refine (hAc.out).mono ?_; rintro e w3 ⟨rfl, hb3⟩
    have V3 := (V2.out.below hb3).below (Below.more_ (Below.refl _ _) (.cells #[.int .i64 0, .int .u64 0, .int .i64 0, .int .u64 0, .int .u64 0, .string ⟨#[]⟩] 31))
    have hRs := HandAt.result V3
    rw [hnr.out] at hRs
    have hz3 := (nx hz2.out (Nat.le_refl _) hb3).alloc (by have := hb3.size; have := hz2.out.size; omega) (.cells #[.int .i64 0, .int .u64 0, .int .i64 0, .int .u64 0, .int .u64 0, .string ⟨#[]⟩] 31)
    clear hb3
    replace V3 := Lib.hid V3
    replace hRs := Lib.hid hRs
    replace hz3 := Lib.hid hz3
    go_wp2_with fail
    refine (hRs.out).mono ?_; rintro e w4 ⟨rfl, hb4⟩
    have hz4 := (hz3.out.trans (hb4.mono hz3.out.size))
    go_wp2_with fail
    refine (awake29 _).mono ?_; rintro e w7 ⟨rfl, hb7⟩
    go_wp2_with fail
    go_ret
    exact ⟨rfl, (hz4.alloc hz4.size _).trans (hb7.mono (hz4.alloc hz4.size _).size)⟩
  | true =>
  have hR := (PCfg.right_iff c).1 hright
  have hn0 : (newHand c text).part ≠ 0 := by unfold newHand; rw [if_pos hright]; show (1 : Int) ≠ 0; decide
  have hreq : ∀ (T : PTape) (W : World) (tb : Nat), TapeIn W tb A cap T → T.over = false → T.at_ = 0 → T.act = noAct → (∀ g ∈ T.got, g.Ok) → Calls Try.prog 38 #[.pointer (some ⟨tb, 0, none⟩), c.val, .string text] W (HandPost (newHand c text) T.got W tb A cap) := fun T W tb h2 h3 h4 h5 h6 => refHand_any h2 h3 h4 h5 c hR text h6
  rw [hright] at hRR
  rw [hCV] at hNw hRR hreq ⊢
  replace hNw := Lib.hid hNw
  replace hRR := Lib.hid hRR
  replace hreq := Lib.hid hreq
  replace hr := Lib.hid hr
  replace hz := Lib.hid hz
  replace B0 := Lib.hid B0
  replace hright := Lib.hid hright
  replace hn0 := Lib.hid hn0
  clear hCV
  go_enter Try.func6, Try.ntmps6
  go_wp2_with fail
  refine (hNw.out _).mono ?_; rintro e w1 ⟨b, rfl, hV, hbl⟩
  have B1 := B0.out.below hbl (by simp)
  have hz1 := nx hz.out (Nat.le_refl _) hbl
  have c0 := B1.cell 0
  have c1 := B1.cell 1
  have c2 := B1.cell 2
  have c3 := B1.cell 3
  have c4 := B1.cell 4
  have c5 := B1.cell 5
  clear hbl
  simp only [World.size_alloc] at hV
  replace hV := Lib.hid hV
  replace B1 := Lib.hid B1
  replace hz1 := Lib.hid hz1
  go_wp2_with fail
  refine (hRR.out _).mono ?_; rintro e w2 ⟨rfl, hb2⟩
  have V2 := hV.out.below hb2
  have B2 := B1.out.below hb2 B1.out.lt
  have hz2 := nx hz1.out (Nat.le_refl _) hb2
  clear hb2 c0 c1 c2 c3 c4 c5
  replace B2 := Lib.hid B2
  replace hz2 := Lib.hid hz2
  replace V2 := Lib.hid V2
  go_wp2_with fail
  go_loopw [12] (fun i wr => HActsRel w len gs c text b i wr) (fun i _ => len + 2 - (intOf i).toNat)
  case atStart => exact ⟨⟨0, by omega, rfl, V2.out⟩, B2.out, hz2.out⟩
  case round =>
    obtain ⟨⟨k, hk, rfl, hVk⟩, b0, hbel⟩ := hrel
    by_cases hke : k ≤ len
    · have d3 : decide ((k : Int) ≤ (len : Int)) = true := by simp; omega
      have i1 : (0 : Int) ≤ (k : Int) := by omega
      have i2 : (k : Int) ≤ (cap : Int) := by omega
      have hs1 := b0.lt
      have hbk := hVk.lt.1
      have c0 := b0.cell 0
      have c1 := b0.cell 1
      have c2 := b0.cell 2
      have c3 := b0.cell 3
      have c4 := b0.cell 4
      have c5 := b0.cell 5
      replace hVk := Lib.hid hVk
      replace b0 := Lib.hid b0
      replace hbel := Lib.hid hbel
      go_wp2_with fail
      have hT : TapeIn (wr.alloc (.cells #[.slice A k cap, .int .i64 0, .bool false, .int .i64 0, .int .u64 0, .int .i64 0, .int .u64 0, .int .u64 0, .string ⟨#[]⟩] 48)) wr.heap.size A cap (freshT (gs.take k)) := by
        have hsz := hbel.out.size
        have e : (gs.take k).length = k := by simp; omega
        refine ⟨Blk.eq_cs (Blk.new wr 48 _) (by simp [PTape.cells, freshT, e, noAct]; rfl), ?_, by show (gs.take k).length ≤ _; omega, Nat.zero_le _⟩
        exact ((reads_take hr.out hke hlen).below (hbel.out.trans ((Below.refl wr.heap.size wr).alloc (Nat.le_refl _) _ |>.mono hsz))).more (by omega)
      refine (hreq.out _ _ _ hT rfl rfl rfl (fun g hg => hok g (List.mem_of_mem_take hg))).mono ?_; rintro e w2 ⟨T', ff, ft, fr, rfl, hT2, ho, ha, hwant, hC2⟩
      replace hT := Lib.hid hT
      have hsg : feed PHand.take (newHand c text) (freshT (gs.take k)).got = feed PHand.take (newHand c text) (gs.take k) := rfl
      rw [hsg] at ho ha hwant
      have htk : ∀ g : PGot, gs[k]? = some g → feed PHand.take (newHand c text) (gs.take (k + 1)) = (feed PHand.take (newHand c text) (gs.take k)).take g := fun g hg => feed_snoc _ gs k g hg
      have hend : k = len → feed PHand.take (newHand c text) (gs.take (k + 1)) = feed PHand.take (newHand c text) (gs.take k) := fun e => by rw [List.take_of_length_le (by omega), List.take_of_length_le (by omega)]
      have hn1 : (feed PHand.take (newHand c text) (gs.take k)).part ≠ 0 := feed_part _ hn0.out _
      generalize feed PHand.take (newHand c text) (gs.take k) = s at *
      have hi1 := HandAt_is hVk.out hn1
      have hi3 := hand_is s (by rw [hi1]; simp)
      have hVw : RAt handRout (w.heap.size + 1) w2 b s := hVk.out.far (by have := hC2.size; simp at this; omega) fun j hj => (hC2.block j (by simp; omega) (by omega)).trans (Below.heap_alloc wr _ j hj)
      have hBw : Below w.heap.size w w2 := (Below.more_ hbel.out _).trans (hC2.below (fun i hi => by have := hbel.out.size; omega) (by have := hbel.out.size; simp; omega))
      have b02 := (b0.out.alloc _).keep (hC2.block w.heap.size (by simp; omega) (by show w.heap.size ≠ wr.heap.size; omega))
      have hsz2 := hC2.size
      simp only [World.size_alloc] at hsz2
      clear c0 c1 c2 c3 c4 c5 hsg
      obtain ⟨tg, ta, tov, tact⟩ := T'
      simp only at ho ha hwant
      subst ho ha
      have hAr : (handRout.act s) = s.act := rfl
      rcases hact : s.act with ⟨⟨xk, xb, xc, xo, xn, xt⟩, mo⟩
      rcases hrs : s.result with ⟨⟨rf, rt, rr⟩, ri⟩
      rw [hact] at hi1 hi3 hT2 hwant hAr
      rw [hrs] at hi1 hwant
      simp only at hi1 hi3 hwant
      subst hi1
      have hA2 := (hVw.below (Below.more_ (Below.refl _ _) (.cells #[.bool ff, .int .i64 ft, .int .u64 fr] 84))).act
      rw [hAr] at hA2
      change Calls Try.prog 36 _ _ (fun e w' => e = .returned (.tuple #[.agg #[.int .i64 xk, .int .u64 xb, .int .i64 xc, .int .u64 xo, .int .u64 xn, .string xt], .bool mo]) ∧ _) at hA2
      have W2 := Blk.new w2 84 #[.bool ff, .int .i64 ft, .int .u64 fr]
      replace hA2 := Lib.hid hA2
      replace hVw := Lib.hid hVw
      replace hBw := Lib.hid hBw
      replace hT2 := Lib.hid hT2
      replace hact := Lib.hid hact
      replace hrs := Lib.hid hrs
      replace hC2 := Lib.hid hC2
      replace b02 := Lib.hid b02
      replace W2 := Lib.hid W2
      replace htk := Lib.hid htk
      replace hend := Lib.hid hend
      replace hi3 := Lib.hid hi3
      replace hwant := Lib.hid hwant
      replace hn1 := Lib.hid hn1
      replace hAr := Lib.hid hAr
      go_wp2_with fail
      refine (hA2.out).mono ?_; rintro e w3 ⟨rfl, hb3⟩
      have hb23 : Below w2.heap.size w2 w3 := ((Below.refl w2.heap.size w2).alloc (Nat.le_refl _) _).trans (hb3.mono (by simp))
      have V3 := (hVw.out.below hb23).below (Below.more_ (Below.refl _ _) (.cells #[.int .i64 xk, .int .u64 xb, .int .i64 xc, .int .u64 xo, .int .u64 xn, .string xt] 31))
      have hR3 := HandAt.result V3
      rw [hrs.out] at hR3
      have W3 := W2.out.below hb3 (by simp)
      clear hb3
      replace V3 := Lib.hid V3
      replace hR3 := Lib.hid hR3
      replace W3 := Lib.hid W3
      replace hb23 := Lib.hid hb23
      go_wp2_with fail
      refine (hR3.out).mono ?_; rintro e w4 ⟨rfl, hb4⟩
      go_wp2_with fail
      have hsz3 := (hb23.out).size
      have hsz4 := hb4.size
      simp only [World.size_alloc] at hsz4
      have hb34 : Below w2.heap.size w2 (w4.alloc (.cells #[.bool rf, .int .i64 rt, .int .u64 rr] 81)) := (((hb23.out).alloc (hb23.out).size _).trans (hb4.mono (by have := (hb23.out).size; simp; omega))).alloc (by omega) _
      have T4 := hT2.out.below hb34
      have V4 := hVw.out.below hb34
      have B4 := ((Blk.new w3 31 #[.int .i64 xk, .int .u64 xb, .int .i64 xc, .int .u64 xo, .int .u64 xn, .string xt]).below hb4 (by simp)).alloc (.cells #[.bool rf, .int .i64 rt, .int .u64 rr] 81)
      have W4 := ((W3.out.alloc _).below hb4 (W3.out.alloc _).lt).alloc (.cells #[.bool rf, .int .i64 rt, .int .u64 rr] 81)
      have X4 := Blk.new w4 81 #[.bool rf, .int .i64 rt, .int .u64 rr]
      have b04 := b02.out.below hb34 b02.out.lt
      have hB4 : Below w.heap.size w (w4.alloc (.cells #[.bool rf, .int .i64 rt, .int .u64 rr] 81)) := hBw.out.trans (hb34.mono (by have := hBw.out.size; omega))
      have hs4 : (w4.alloc (.cells #[.bool rf, .int .i64 rt, .int .u64 rr] 81)).heap.size = w4.heap.size + 1 := by simp
      generalize (w4.alloc (.cells #[.bool rf, .int .i64 rt, .int .u64 rr] 81)) = wz at *
      have t2 : wz.cell? ⟨wr.heap.size, 2, none⟩ = some (.bool mo) := T4.blk.cell 2
      have t3 : wz.cell? ⟨wr.heap.size, 3, none⟩ = some (.int .i64 xk) := T4.blk.cell 3
      have t4 : wz.cell? ⟨wr.heap.size, 4, none⟩ = some (.int .u64 xb) := T4.blk.cell 4
      have t5 : wz.cell? ⟨wr.heap.size, 5, none⟩ = some (.int .i64 xc) := T4.blk.cell 5
      have t6 : wz.cell? ⟨wr.heap.size, 6, none⟩ = some (.int .u64 xo) := T4.blk.cell 6
      have t7 : wz.cell? ⟨wr.heap.size, 7, none⟩ = some (.int .u64 xn) := T4.blk.cell 7
      have t8 : wz.cell? ⟨wr.heap.size, 8, none⟩ = some (.string xt) := T4.blk.cell 8
      have a0 := B4.cell 0
      have a1 := B4.cell 1
      have a2 := B4.cell 2
      have a3 := B4.cell 3
      have a4 := B4.cell 4
      have a5 := B4.cell 5
      have y0 := W4.cell 0
      have y1 := W4.cell 1
      have y2 := W4.cell 2
      have x0 := X4.cell 0
      have x1 := X4.cell 1
      have x2 := X4.cell 2
      clear hb4
      replace T4 := Lib.hid T4
      replace V4 := Lib.hid V4
      replace B4 := Lib.hid B4
      replace W4 := Lib.hid W4
      replace X4 := Lib.hid X4
      replace b04 := Lib.hid b04
      replace hb34 := Lib.hid hb34
      replace hB4 := Lib.hid hB4
      cases mo with
      | true =>
        by_cases hkl : k < len
        · have d4 : decide ((k : Int) < (len : Int)) = true := by simp; omega
          have i3 : (k : Int) < (len : Int) := by omega
          obtain ⟨⟨gw, gt⟩, hgk⟩ : ∃ g, gs[k]? = some g := ⟨_, List.getElem?_eq_getElem (by omega)⟩
          have hgo := hok _ (List.mem_of_getElem? hgk)
          obtain ⟨ad, rfl, hadb, hcl⟩ := hr.out.2 (show 0 < len by omega)
          obtain ⟨q1, q2⟩ := gotL_at gs k _ hgk
          have r1 := keepc hB4.out hadb (hcl _ _ q1)
          have r2' := keepc hB4.out hadb (hcl _ _ q2)
          have r2 : wz.cell? ⟨(ad.add (k * 2)).block, (ad.add (k * 2)).off + 1, none⟩ = some (.string gt) := by
            have e : (⟨(ad.add (k * 2)).block, (ad.add (k * 2)).off + 1, none⟩ : Addr) = (ad.add (k * 2)).add 1 := rfl
            rw [e, add_of_add]
            exact r2'
          clear r2' q1 q2 hcl
          replace hgk := Lib.hid hgk
          go_quiet (fail)
          go_wp2_with fail
          have hl0 := b04.out.lt
          have hTk : Calls Try.prog 39 _ _ _ := (V4.out.below (below_drewN (Below.refl _ _) nq)).take (by show w.heap.size + 1 ≤ wz.heap.size; omega) ⟨gw, gt⟩ hgo (by rw [hAr.out])
          rw [show PGot.val ⟨gw, gt⟩ = .agg #[.int .u64 gw, .string gt] from rfl] at hTk
          refine hTk.mono ?_; rintro e w5 ⟨rfl, V6, C6⟩
          have V6' : RAt handRout (w.heap.size + 1) w5 b (s.take ⟨gw, gt⟩) := V6
          rw [← htk.out _ hgk.out] at V6'
          have b05 := (b04.out.drewN nq).keep (C6.block w.heap.size hl0 (by omega))
          have hB5 : Below w.heap.size w w5 := (below_drewN hB4.out nq).trans (C6.below (fun i hi => by omega) (by show w.heap.size ≤ wz.heap.size; omega))
          clear V6
          replace V6' := Lib.hid V6'
          replace C6 := Lib.hid C6
          replace hTk := Lib.hid hTk
          replace b05 := Lib.hid b05
          replace hB5 := Lib.hid hB5
          go_wp2_with fail
          go_roundw
          case rel => exact ⟨⟨k + 1, by omega, by go_num, V6'.out⟩, b05.out, hB5.out⟩
          case measure => simp [intOf]; omega
        · have d4 : decide ((k : Int) < (len : Int)) = false := by simp; omega
          go_quiet (fail)
          go_wp2_with fail
          go_roundw
          case rel => exact ⟨⟨k + 1, by omega, by go_num, by rw [hend.out (by omega)]; exact V4.out.below (below_drewN (Below.refl _ _) _)⟩, b04.out.drewN _, below_drewN hB4.out _⟩
          case measure => simp [intOf]; omega
      | false =>
        have hw2 := hwant.out rfl
        injection hw2 with w1' w2'
        injection w2' with w2' w3'
        subst w1' w2' w3'
        go_quiet (fail)
        go_wp2_with fail
        refine (awake29 _).mono ?_; rintro e w7 ⟨rfl, hb7⟩
        go_wp2_with fail
        go_ret
        exact ⟨rfl, Below.next_ (below_drewN hB4.out _) hb7⟩
    · have d3 : decide ((k : Int) ≤ (len : Int)) = false := by simp; omega
      go_wp2_with fail
      refine (awake29 _).mono ?_; rintro e w7 ⟨rfl, hb7⟩
      go_wp2_with fail
      go_ret
      exact ⟨rfl, Below.next_ hbel hb7⟩
end Go.Proofs.Ytfelkkbgbgnpaaa
