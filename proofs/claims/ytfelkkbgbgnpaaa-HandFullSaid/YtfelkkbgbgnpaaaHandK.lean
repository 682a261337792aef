/-
  The walk over the law of handing in, of many threads (layer 29). No condition.
-/
import Derived.Test.YtfelkkbgbgnpaaaHandQ
import Derived.Test.YtfelkkbgbgnpaaaHandG
import Derived.Test.YtfelkkbgbgnpaaaCrew
import Derived.Deep.CutRange
import Derived.Deep.RegionHeld3
import Derived.StillTailTactics
import Derived.Deep.RegionLaw
namespace Go.Proofs.Ytfelkkbgbgnpaaa
set_option linter.unusedVariables false
open Go.ChangeShapes Go.WideShapes Go.ChangeAt Go.RowKit
open Go.ChangeMaps (setBlock)

theorem reads_ptrH (w : World) (t : TypeId) (x : Value) : Reads (w.alloc (.cells #[x] t)) (w.heap.size + 1) 1 (some ⟨w.heap.size, 0, none⟩) 1 [x] := by
  refine ⟨rfl, fun _ => ⟨_, rfl, by show w.heap.size < w.heap.size + 1; omega, fun j u hu => ?_⟩⟩
  have e : (⟨w.heap.size, 0, none⟩ : Addr).add j = ⟨w.heap.size, j, none⟩ := by unfold Addr.add; split <;> simp_all
  rw [e, (Blk.new w t #[x]).cell j]
  simpa using hu
theorem slice_ownH {w : World} {base : Nat} {e : TypeId} {size n : Nat} {v : Value} {xs : List Value} (h : w.ownsRow base e size v n xs) : ∃ A c, v = .slice A n c := by
  rcases h.2 with ⟨rfl, rfl⟩ | ⟨g, cap, _, rfl, _⟩
  · exact ⟨none, 0, rfl⟩
  · exact ⟨_, cap, rfl⟩
theorem handNew_at (c : PCfg) (text : ByteArray) (htx : text.size ≤ 9223372036854775807) (w : World) : Calls Try.prog 35 #[c.val, .string text] w fun e w' => ∃ b, e = .returned (.pointer (some ⟨b, 0, none⟩)) ∧ RAt handRout w.heap.size w' b (newHand c text) ∧ Below w.heap.size w w' :=
  (handNew_any c text htx w).mono fun e w' ⟨b, he, hN, hbb, hbl⟩ => ⟨b, he, ⟨fun k => w.heap.size ≤ k ∧ k < w'.heap.size, handR_fresh hbb hN.lt hN, fun k hk => hk.1⟩, hbl⟩
/-- Between two rounds of the first loop. -/
def HH1 (w1 : World) (len : Nat) (ts : List ByteArray) (c : PCfg) (r hb : Nat) (F2 : Nat → Prop) (v iv : Value) (wr : World) : Prop :=
  ∃ (k : Nat) (bs : List Nat) (ss : Nat → PHand) (D : Nat → Nat → Prop), k ≤ len ∧ iv = .int .i64 k ∧ bs.length = k ∧ Crew handRout w1 hb (fieldS c r) F2 bs ss v D wr ∧ ∀ j t, j < k → ts[j]? = some t → ss j = newHand c t ∧ t.size ≤ 100
/-- Between two rounds of the second loop. -/
def HH2 (w1 : World) (len : Nat) (ts : List ByteArray) (c : PCfg) (hb : Nat) (bs : List Nat) (v iv : Value) (wr : World) : Prop :=
  ∃ (k : Nat) (S : PHeap) (F : Nat → Prop) (g : Nat) (ss : Nat → PHand) (os : Nat → Option Nat) (D : Nat → Nat → Prop), k ≤ len ∧ iv = .int .i64 k ∧ Crew handRout w1 hb S F bs ss v D wr ∧ All c ts S g ss os ∧ S.last ≤ 1 + k
/-- Between two rounds of the third loop. -/
def HH3 (w1 : World) (len : Nat) (ts : List ByteArray) (c : PCfg) (hb : Nat) (bs : List Nat) (v nv iv : Value) (wr : World) : Prop :=
  ∃ (k : Nat) (S : PHeap) (F : Nat → Prop) (g : Nat) (ss : Nat → PHand) (os : Nat → Option Nat) (D : Nat → Nat → Prop), k ≤ len ∧ iv = .int .i64 k ∧ nv = .int .i64 ((cntO os k : Nat) : Int) ∧ Crew handRout w1 hb S F bs ss v D wr ∧ All c ts S g ss os ∧ S.last ≤ 201 + 5 * k ∧ ∀ j, j < k → (ss j).part = 4
/-- What a pick does. -/
theorem hand_pick {c : PCfg} (hc : c.Right) {ts : List ByteArray} (hts : ∀ t ∈ ts, t.size ≤ 4096) {w1 wr w' : World} {F F' D D' : Nat → Prop} {hb b : Nat} {S S' : PHeap} {g : Nat} {ss : Nat → PHand} {os : Nat → Option Nat} {s' : PHand} {is : Bool} (h : All c ts S g ss os) {j0 : Nat} {t0 : ByteArray} (hj : ts[j0]? = some t0)
    (hP : NextP handRout w1 wr F D hb b S (ss j0) S' s' F' D' is w') : is = (ss j0).act.2 ∧ ∃ g' os', All c ts S' g' (fun j => if j = j0 then s' else ss j) os' ∧ S'.last ≤ S.last + 1 := by
  obtain ⟨n0, hn⟩ := h.each j0 t0 hj
  rcases hP.did with ⟨h1, h2, h3, h4⟩ | ⟨h1, h2, r, h3, h4⟩
  · have hp := hand_stop hc (hts _ (List.mem_of_getElem? hj)) h.fs hn h2
    have e : (ss j0).act = (noAct, false) := by simp [PHand.act, hp]
    subst h3 h4
    refine ⟨by rw [h1, e], g, os, h.congr fun j => ?_, by omega⟩
    split
    · rename_i hjj; rw [hjj]
    · rfl
  · have hne : (ss j0).part ≠ 4 := fun h4' => by
      have e : handRout.act (ss j0) = (noAct, false) := by show PHand.act (ss j0) = _; simp [PHand.act, h4']
      unfold Rout.can at h2
      rw [e] at h2
      cases h2
    obtain ⟨x, hx, _, hstep⟩ := h.step hc hts hj hn hne
    have e : handRout.act (ss j0) = (x, true) := hx
    rw [e] at h3 h4
    obtain ⟨g', os', n', k1, _, _, k4, _⟩ := hstep r
    have h4' : s' = (ss j0).take (S.act x r).1 := h4
    subst h3 h4'
    exact ⟨by rw [h1, hx], g', os', k1, k4⟩
/-- What a thread comes to that goes on alone. -/
structure HDone (c : PCfg) (t0 : ByteArray) (ts : List ByteArray) (S S' : PHeap) (ss : Nat → PHand) (os : Nat → Option Nat) (j0 : Nat) (s' : PHand) (os' : Nat → Option Nat) : Prop where
  all : ∃ g', All c ts S' g' (fun j => if j = j0 then s' else ss j) os'
  last : S'.last ≤ S.last + 5
  same : ∀ j, j ≠ j0 → os' j = os j
  done : ∃ R : Int, Rec S' R t0 ∧ ((os' j0 = none ∧ s'.result = ((true, 0, R), true)) ∨ ∃ k : Nat, os' j0 = some k ∧ (k : Int) < c.cap ∧ s'.result = ((false, (k : Int), R), true) ∧ CtlAt S' (ringAt c k).toNat R)
  part : s'.part = 4
theorem hand_done {c : PCfg} (hc : c.Right) {ts : List ByteArray} (hts : ∀ t ∈ ts, t.size ≤ 4096) {S S' : PHeap} {g : Nat} {ss : Nat → PHand} {os : Nat → Option Nat} {s' : PHand} {xs : List (PAct × PGot)} (h : All c ts S g ss os) {j0 : Nat} {t0 : ByteArray} (hj : ts[j0]? = some t0)
    (hr : Runs handRout S (ss j0) xs S' s') (hst : (100 : Int) ≤ (xs.length : Nat) ∨ handRout.can S' s' = false) : ∃ os', HDone c t0 ts S S' ss os j0 s' os' := by
  obtain ⟨n0, hn⟩ := h.each j0 t0 hj
  obtain ⟨g', os', n', k1, k2, k3, k4, k5⟩ := All.runs hc hts hj xs h hn hr
  have h5 := hn.le
  have hcan : handRout.can S' s' = false := by
    rcases hst with h1 | h1
    · omega
    · exact h1
  have hp := hand_stop hc (hts _ (List.mem_of_getElem? hj)) k1.fs k2 hcan
  have hle := k1.fs.le
  refine ⟨os', ⟨g', k1⟩, by omega, k5, ?_, hp⟩
  generalize os' j0 = o at k2 ⊢
  cases k2 with
  | p1 => cases hp
  | p2 => cases hp
  | p3 => cases hp
  | p4 h1 h2 h3 => exact ⟨_, h1, .inr ⟨_, rfl, by omega, rfl, h3⟩⟩
  | p5 h1 _ => exact ⟨_, h1, .inl ⟨rfl, rfl⟩⟩
set_option maxRecDepth 100000 in
set_option maxHeartbeats 1000000 in
theorem handsSmall (A A1 : Option Addr) (len cap len1 cap1 : Nat) (c : PCfg) (hbad : c.right = false ∨ 8 < len ∨ len = 0 ∨ 200 < len1) (w : World) :
    Calls Try.prog 7 #[c.val, .slice A len cap, .slice A1 len1 cap1] w fun e w' => e = .returned (.bool true) ∧ Below w.heap.size w w' := by
  have hVV : c.val = .agg #[.int .i64 c.cap, .int .i64 c.pins, .int .i64 c.shelves, .int .i64 c.queue, .int .i64 c.watchers, .int .u64 c.seed] := rfl
  have hRR := fun W => right_cfg c W
  have hz : Below w.heap.size w (w.alloc (.cells #[.int .i64 c.cap, .int .i64 c.pins, .int .i64 c.shelves, .int .i64 c.queue, .int .i64 c.watchers, .int .u64 c.seed] 24)) := (Below.refl _ _).alloc (Nat.le_refl _) _
  have B0 := Blk.new w 24 #[.int .i64 c.cap, .int .i64 c.pins, .int .i64 c.shelves, .int .i64 c.queue, .int .i64 c.watchers, .int .u64 c.seed]
  have hcs : c.right = false ∨ (c.right = true ∧ 8 < len) ∨ (c.right = true ∧ ¬ 8 < len ∧ len = 0) ∨ (c.right = true ∧ ¬ 8 < len ∧ ¬ len = 0 ∧ 200 < len1) := by
    have hb : c.right = false ∨ (c.right = true ∧ (8 < len ∨ len = 0 ∨ 200 < len1)) := by
      rcases hbad with h | h
      · exact .inl h
      · cases c.right with
        | false => exact .inl rfl
        | true => exact .inr ⟨rfl, h⟩
    rcases hb with h | ⟨hrt, h⟩
    · exact .inl h
    · by_cases h8 : 8 < len
      · exact .inr (.inl ⟨hrt, h8⟩)
      · by_cases h0 : len = 0
        · exact .inr (.inr (.inl ⟨hrt, h8, h0⟩))
        · exact .inr (.inr (.inr ⟨hrt, h8, h0, by omega⟩))
  rw [hVV] at hRR ⊢
  clear hVV hbad
  generalize c.right = rt at *
  replace hRR := Lib.hid hRR
  replace hz := Lib.hid hz
  replace B0 := Lib.hid B0
  rcases hcs with rfl | ⟨rfl, h8⟩ | ⟨rfl, h8, h0⟩ | ⟨rfl, h8, h0, h2⟩
  · go_enter Try.func7, Try.ntmps7
    go_wp2_with fail
    refine (hRR.out _).mono ?_; rintro e w1 ⟨rfl, hb1⟩
    go_wp2_with fail
    refine (awake29 _).mono ?_; rintro e w7 ⟨rfl, hb7⟩
    go_wp2_with fail
    go_ret
    have h1 := nx hz.out (Nat.le_refl _) hb1
    exact ⟨rfl, h1.trans (hb7.mono h1.size)⟩
  · have d1 : decide ((8 : Int) < (len : Int)) = true := by simp; omega
    go_enter Try.func7, Try.ntmps7
    go_wp2_with fail
    refine (hRR.out _).mono ?_; rintro e w1 ⟨rfl, hb1⟩
    go_wp2_with fail
    refine (awake29 _).mono ?_; rintro e w7 ⟨rfl, hb7⟩
    go_wp2_with fail
    go_ret
    have h1 := nx hz.out (Nat.le_refl _) hb1
    exact ⟨rfl, h1.trans (hb7.mono h1.size)⟩
  · have d1 : decide ((8 : Int) < (len : Int)) = false := by simp; omega
    have d2 : ((len : Int) == 0) = true := by simp; omega
    replace h0 := Lib.hid h0
    go_enter Try.func7, Try.ntmps7
    go_wp2_with fail
    refine (hRR.out _).mono ?_; rintro e w1 ⟨rfl, hb1⟩
    go_wp2_with fail
    refine (awake29 _).mono ?_; rintro e w7 ⟨rfl, hb7⟩
    go_wp2_with fail
    go_ret
    have h1 := nx hz.out (Nat.le_refl _) hb1
    exact ⟨rfl, h1.trans (hb7.mono h1.size)⟩
  · have d1 : decide ((8 : Int) < (len : Int)) = false := by simp; omega
    have d2 : ((len : Int) == 0) = false := by rw [beq_eq_false_iff_ne]; omega
    have d3 : decide ((200 : Int) < (len1 : Int)) = true := by simp; omega
    replace h0 := Lib.hid h0
    go_enter Try.func7, Try.ntmps7
    go_wp2_with fail
    refine (hRR.out _).mono ?_; rintro e w1 ⟨rfl, hb1⟩
    go_wp2_with fail
    refine (awake29 _).mono ?_; rintro e w7 ⟨rfl, hb7⟩
    go_wp2_with fail
    go_ret
    have h1 := nx hz.out (Nat.le_refl _) hb1
    exact ⟨rfl, h1.trans (hb7.mono h1.size)⟩
set_option maxRecDepth 100000 in
set_option maxHeartbeats 4000000 in
theorem handsWalk (A A1 : Option Addr) (len cap len1 cap1 : Nat) (ts : List ByteArray) (hlen : ts.length = len) (hl0 : 1 ≤ len) (hl8 : len ≤ 8) (zs : List Int) (hlen1 : zs.length = len1) (hzs : ∀ z ∈ zs, 0 ≤ z ∧ z ≤ 255) (hl200 : len1 ≤ 200) (c : PCfg) (hR : c.Right) (w : World) (hr : Reads w w.heap.size 1 A len (ts.map Value.string)) (hr1 : Reads w w.heap.size 1 A1 len1 (zs.map (Value.int .u8))) :
    Calls Try.prog 7 #[c.val, .slice A len cap, .slice A1 len1 cap1] w fun e w' => e = .returned (.bool true) ∧ Below w.heap.size w w' := by
  obtain ⟨i0, hi, hz0', hz1', hz2'⟩ : ∃ i, Try.prog.info? 78 = some i ∧ i.zero = some (.pointer none) ∧ i.size = 1 ∧ i.bytes = 8 := ⟨_, rfl, rfl, rfl, rfl⟩
  have hVV : c.val = .agg #[.int .i64 c.cap, .int .i64 c.pins, .int .i64 c.shelves, .int .i64 c.queue, .int .i64 c.watchers, .int .u64 c.seed] := rfl
  have hRR := fun W => right_cfg c W
  rw [(PCfg.right_iff c).2 hR] at hRR
  have hz : Below w.heap.size w (w.alloc (.cells #[.int .i64 c.cap, .int .i64 c.pins, .int .i64 c.shelves, .int .i64 c.queue, .int .i64 c.watchers, .int .u64 c.seed] 24)) := (Below.refl _ _).alloc (Nat.le_refl _) _
  have B0 := Blk.new w 24 #[.int .i64 c.cap, .int .i64 c.pins, .int .i64 c.shelves, .int .i64 c.queue, .int .i64 c.watchers, .int .u64 c.seed]
  have hFd := fun W => field_any c hR W
  have hNw : ∀ (t : ByteArray), t.size ≤ 9223372036854775807 → ∀ W, _ := fun t ht W => handNew_at c t ht W
  have hRg : ∀ (i : Int), 0 ≤ i ∧ i ≤ 9223372036854775807 → ∀ W, _ := fun i hi W => planRing_any c hR i hi W
  have d1 : decide ((8 : Int) < (len : Int)) = false := by simp; omega
  have d2 : ((len : Int) == 0) = false := by rw [beq_eq_false_iff_ne]; omega
  have d3 : decide ((200 : Int) < (len1 : Int)) = false := by simp; omega
  rw [hVV] at hRR hFd hNw hRg ⊢
  clear hVV
  replace hRR := Lib.hid hRR
  replace hFd := Lib.hid hFd
  replace hNw := Lib.hid hNw
  replace hRg := Lib.hid hRg
  replace hr := Lib.hid hr
  replace hr1 := Lib.hid hr1
  replace hz := Lib.hid hz
  replace B0 := Lib.hid B0
  replace hlen := Lib.hid hlen
  replace hlen1 := Lib.hid hlen1
  replace hzs := Lib.hid hzs
  go_enter Try.func7, Try.ntmps7
  go_wp2_with fail
  refine (hRR.out _).mono ?_; rintro e w1 ⟨rfl, hb1⟩
  have C1 := B0.out.below hb1 (by simp)
  have hz1 := nx hz.out (Nat.le_refl _) hb1
  have c0 := C1.cell 0
  have c1 := C1.cell 1
  have c2 := C1.cell 2
  have c3 := C1.cell 3
  have c4 := C1.cell 4
  have c5 := C1.cell 5
  clear hb1
  replace C1 := Lib.hid C1
  replace hz1 := Lib.hid hz1
  go_wp2_with fail
  refine (hFd.out _).mono ?_; rintro e w2 ⟨hb, r, rfl, s2⟩
  obtain ⟨F2, o2⟩ := Own.of_sess s2
  have hF2 := o2.heap.own
  have hcw := C1.out.lt
  have hB2 : Below w2.heap.size w2 (w2.alloc (.cells #[] 78)) := (Below.refl _ _).alloc (Nat.le_refl _) _
  have hcr : Crew handRout w1 hb (fieldS c r) F2 [] (fun _ => newHand c ByteArray.empty) (.slice (some ⟨w2.heap.size, 0, none⟩) 0 0) (fun _ _ => False) (w2.alloc (.cells #[] 78)) := by
    refine ⟨o2.keep hB2, fun j b hj => by simp at hj, fun i j hi => by simp at hi, ⟨rfl, .inr ⟨w2.heap.size, 0, #[], rfl, o2.below.size, Blk.new w2 78 #[], Nat.le_refl _, Nat.zero_le _, rfl, rfl⟩⟩, fun g hg => ⟨fun hF => ?_, fun j hj => by simp at hj⟩⟩
    have e : w2.heap.size = g := by simpa [Value.ownBlock] using hg
    have := hF2 g hF
    omega
  have hcf : ∀ W, Below w1.heap.size w1 W → (W.cell? ⟨w.heap.size, 0, none⟩ = some (.int .i64 c.cap) ∧ W.cell? ⟨w.heap.size, 1, none⟩ = some (.int .i64 c.pins) ∧ W.cell? ⟨w.heap.size, 2, none⟩ = some (.int .i64 c.shelves) ∧ W.cell? ⟨w.heap.size, 3, none⟩ = some (.int .i64 c.queue) ∧ W.cell? ⟨w.heap.size, 4, none⟩ = some (.int .i64 c.watchers) ∧ W.cell? ⟨w.heap.size, 5, none⟩ = some (.int .u64 c.seed)) := fun W h => by
    have hB := C1.out.below h hcw
    exact ⟨hB.cell 0, hB.cell 1, hB.cell 2, hB.cell 3, hB.cell 4, hB.cell 5⟩
  have hbw : ∀ W, Below w1.heap.size w1 W → Below w.heap.size w W := fun W h => hz1.out.trans (h.mono hz1.out.size)
  clear s2 o2 hB2 c0 c1 c2 c3 c4 c5
  replace hcr := Lib.hid hcr
  replace hcf := Lib.hid hcf
  replace hbw := Lib.hid hbw
  go_wp2_with fail
  go_loopw [8, 9] (fun v iv wr => HH1 w1 len ts c r hb F2 v iv wr) (fun _ i _ => len + 1 - (intOf i).toNat)
  case atStart => exact ⟨0, [], _, _, Nat.zero_le _, rfl, rfl, hcr.out, fun j t hj => by omega⟩
  case round =>
    clear hcr
    obtain ⟨k, bs, ss, D, hk, rfl, hbs, hC, hts⟩ := hrel
    have hrow0 := hC.row
    rw [hbs] at hrow0
    obtain ⟨A', cp, rfl⟩ := slice_ownH hrow0
    clear hrow0
    have hw' := hbw.out _ hC.own.below
    by_cases hlt : k < len
    · have d4 : decide ((k : Int) < (len : Int)) = true := by simpa using hlt
      have i1 : (0 : Int) ≤ (k : Int) := by omega
      have i2 : (k : Int) < (len : Int) := by omega
      have hl63 : (k : Int) + 1 ≤ 9223372036854775807 := by omega
      obtain ⟨ad, u, rfl, hadb, hu, hcell⟩ := hr.out.at_ hlt
      obtain ⟨t, ht, rfl⟩ : ∃ t, ts[k]? = some t ∧ Value.string t = u := by simpa using hu
      have r0 := keepc hw' hadb hcell
      have hK7 : ∀ W, Below wr.heap.size wr W → (W.cell? ⟨w.heap.size, 0, none⟩ = some (.int .i64 c.cap) ∧ W.cell? ⟨w.heap.size, 1, none⟩ = some (.int .i64 c.pins) ∧ W.cell? ⟨w.heap.size, 2, none⟩ = some (.int .i64 c.shelves) ∧ W.cell? ⟨w.heap.size, 3, none⟩ = some (.int .i64 c.queue) ∧ W.cell? ⟨w.heap.size, 4, none⟩ = some (.int .i64 c.watchers) ∧ W.cell? ⟨w.heap.size, 5, none⟩ = some (.int .u64 c.seed) ∧ W.cell? (ad.add k) = some (.string t)) := fun W h => by
        have h1 := hC.own.below.trans (h.mono hC.own.below.size)
        obtain ⟨p0, p1, p2, p3, p4, p5⟩ := hcf.out _ h1
        exact ⟨p0, p1, p2, p3, p4, p5, keepc (hbw.out _ h1) hadb hcell⟩
      clear hu hcell
      replace ht := Lib.hid ht
      replace hts := Lib.hid hts
      replace hbs := Lib.hid hbs
      by_cases htb : 100 < t.size
      · have d5 : decide ((100 : Int) < (t.size : Int)) = true := by simp; omega
        replace hC := Lib.hid hC
        replace hK7 := Lib.hid hK7
        go_wp2_with fail
        refine (awake29 _).mono ?_; rintro e w7 ⟨rfl, hb7⟩
        go_wp2_with fail
        go_ret
        exact ⟨rfl, Below.next_ hw' hb7⟩
      have d5 : decide ((100 : Int) < (t.size : Int)) = false := by simp; omega
      have hNt := hNw.out t (by omega)
      obtain ⟨p0, p1, p2, p3, p4, p5, -⟩ := hK7 _ (Below.refl _ _)
      have hsw := hC.own.below.size
      replace hC := Lib.hid hC
      replace hK7 := Lib.hid hK7
      replace hNt := Lib.hid hNt
      replace hw' := Lib.hid hw'
      go_upto_region 10 with fail
      go_region_law (first | (refine step_append_any _ rfl (.tmp 61) (.tmp 68) 87 rfl w1.heap.size 78 i0 (.pointer none) 1 8 Try.underlying87 hi hz0' hz1' hz2' rfl (by decide) (.slice A' k cp) k (ptrsL bs) (by simp [Act.eval]) hrow.out (w3.heap.size + 1) (some ⟨w3.heap.size, 0, none⟩) 1 1 [.pointer (some ⟨b, 0, none⟩)] (by simp [Act.eval]) (reads_ptrH w3 78 _) (by simp [Value.oneCell']) (by unfold maxLen; omega) (by omega) hsz3 ?_; intro v' w5 hown5 hgrow hloc; rw [ptrsL_snoc] at hown5; have hcw5 := hC.out.more hb4.out hN4.out (by rw [hbs.out]; exact hown5) hgrow hloc; replace hcw5 := Lib.hid hcw5; clear hown5 hgrow hloc) | (go_simp; go_at_call 35; refine (hNt.out _).mono ?_; rintro e w3 ⟨b, rfl, hN3, hb3⟩; have hb3' := (by first | exact hb3 | exact (Below.refl _ _).drew.trans hb3 | exact (below_drewN (Below.refl _ _) _).trans hb3 : Below wr.heap.size wr w3); have hN3' : RAt handRout wr.heap.size w3 b (newHand c t) := hN3; clear hb3 hN3; obtain ⟨z0, z1, z2, z3, z4, z5, z6⟩ := hK7.out _ hb3'; have hb4 : Below wr.heap.size wr (w3.alloc (.cells #[.pointer (some ⟨b, 0, none⟩)] 78)) := hb3'.alloc hb3'.size _; have hN4 : RAt handRout wr.heap.size (w3.alloc (.cells #[.pointer (some ⟨b, 0, none⟩)] 78)) b (newHand c t) := hN3'.below (Below.more_ (Below.refl _ _) _); have hsz3 : w1.heap.size ≤ (w3.alloc (.cells #[.pointer (some ⟨b, 0, none⟩)] 78)).heap.size := Nat.le_trans hsw hb4.size; have hrow := (hC.out.keep hb4).row; rw [hbs.out] at hrow; replace hb4 := Lib.hid hb4; replace hN4 := Lib.hid hN4; replace hrow := Lib.hid hrow; clear hN3'))
      all_goals
        go_wp2_with fail
        go_roundw
        case rel =>
          obtain ⟨D5, h5⟩ := hcw5.out
          refine ⟨k + 1, bs ++ [b], _, D5, by omega, by go_num, by simp [hbs.out], h5, fun j t' hj hjt => ?_⟩
          rw [hbs.out]
          by_cases hjk : j = k
          · subst hjk
            rw [if_pos rfl]
            have e : t' = t := by have := ht.out; rw [hjt] at this; injection this
            rw [e]
            exact ⟨rfl, by omega⟩
          · rw [if_neg hjk]
            exact hts.out j t' (by omega) hjt
        case measure => simp [intOf]; omega
    · have d4 : decide ((k : Int) < (len : Int)) = false := by simpa using hlt
      have hkl : k = len := by omega
      have hA0 : All c ts (fieldS c r) 0 ss (fun _ => none) := all_start hR r ts ss fun j t hj => (hts j t (by have := (List.getElem?_eq_some_iff.1 hj).1; have := hlen.out; omega) hj).1
      have hT : ∀ t ∈ ts, t.size ≤ 4096 := fun t ht => by
        obtain ⟨j, hj⟩ := List.getElem?_of_mem ht
        have := (hts j t (by have := (List.getElem?_eq_some_iff.1 hj).1; have := hlen.out; omega) hj).2
        omega
      have hbl : bs.length = len := hbs.trans hkl
      have hrow := hC.row
      rw [hbs] at hrow
      obtain ⟨gg, cg, hAe⟩ := slice_of_owns hrow (by omega)
      obtain ⟨rfl, rfl⟩ : A' = some ⟨gg, 0, none⟩ ∧ cp = cg := by injection hAe with h1 h2 h3; exact ⟨h1, h3⟩
      clear hrow hAe hts
      rw [hkl] at hC ⊢
      have cel : ∀ (S : PHeap) (F : Nat → Prop) (ss : Nat → PHand) (D : Nat → Nat → Prop) (W : World) (j b : Nat), Crew handRout w1 hb S F bs ss (.slice (some ⟨gg, 0, none⟩) len cp) D W → bs[j]? = some b → W.cell? ⟨gg, j, none⟩ = some (.pointer (some ⟨b, 0, none⟩)) := by
        intro S F ss D W j b h hj
        exact Crew.cell (cap := cp) (by rw [hbl]; exact h) hj
      clear d4 hlt
      have d4 : decide ((len : Int) < (len : Int)) = false := by simp
      replace hC := Lib.hid hC
      replace hA0 := Lib.hid hA0
      replace hT := Lib.hid hT
      replace hbl := Lib.hid hbl
      replace hbs := Lib.hid hbs
      replace hkl := Lib.hid hkl
      replace cel := Lib.hid cel
      replace hw' := Lib.hid hw'
      go_wp2_with fail
      go_loopw [10] (fun iv wr => HH2 w1 len1 ts c hb bs (.slice (some ⟨gg, 0, none⟩) len cp) iv wr) (fun i _ => len1 + 1 - (intOf i).toNat)
      case atStart => exact ⟨0, _, F2, 0, ss, _, D, Nat.zero_le _, rfl, hC.out, hA0.out, by show (1 : Int) ≤ 1 + 0; decide⟩
      case round =>
        clear hC hA0 hw'
        obtain ⟨k2, S, F, g, ss, os, D, hk2, rfl, hC, hA, hla⟩ := hrel
        by_cases hlt2 : k2 < len1
        · have d5 : decide ((k2 : Int) < (len1 : Int)) = true := by simpa using hlt2
          obtain ⟨ad, u, rfl, hadb, hu, hcell⟩ := hr1.out.at_ hlt2
          obtain ⟨z, hz9, rfl⟩ : ∃ z, zs[k2]? = some z ∧ Value.int .u8 z = u := by simpa using hu
          have hzb := hzs.out z (List.mem_of_getElem? hz9)
          obtain ⟨kk, hkk, hkn⟩ : ∃ kk : Nat, z.tmod (len : Int) = (kk : Int) ∧ kk < len := by
            rw [Int.tmod_eq_emod_of_nonneg hzb.1]
            have g1 := Int.emod_nonneg z (b := (len : Int)) (by omega)
            have g2 := Int.emod_lt_of_pos z (b := (len : Int)) (by omega)
            exact ⟨(z % (len : Int)).toNat, by omega, by omega⟩
          have hm0 : ¬ ((len : Int) = 0) := by omega
          have hm0' : ¬ ((len : Int) = -1) := by omega
          have hmz : ((len : Int) == 0) = false := by rw [beq_eq_false_iff_ne]; omega
          have hwz : IntKind.i64.wrap z = z := IntWalk.i64_in _ (by omega)
          have hc0 := keepc (hbw.out _ hC.own.below) hadb hcell
          obtain ⟨b, hbj⟩ : ∃ b, bs[kk]? = some b := ⟨_, List.getElem?_eq_getElem (by have := hbl.out; omega)⟩
          obtain ⟨t, htj⟩ : ∃ t, ts[kk]? = some t := ⟨_, List.getElem?_eq_getElem (by have := hlen.out; omega)⟩
          have i1 : (0 : Int) ≤ (k2 : Int) := by omega
          have i2 : (k2 : Int) < (len1 : Int) := by omega
          have i3 : (0 : Int) ≤ (kk : Int) := by omega
          have i4 : (kk : Int) < (len : Int) := by omega
          have hl63 : (k2 : Int) + 1 ≤ 9223372036854775807 := by omega
          have p0 := cel.out _ _ _ _ _ _ _ hC hbj
          have hE := hC.each kk b hbj
          have hft := hA.fs.faults
          have hAc : Calls Try.prog 36 #[.pointer (some ⟨b, 0, none⟩)] wr _ := handRout.cAct hE.1
          rcases hact : (ss kk).act with ⟨⟨xk, xb, xc, xo, xn, xt⟩, xm⟩
          rw [show handRout.act (ss kk) = (ss kk).act from rfl, hact] at hAc
          change Calls Try.prog _ _ _ (fun e w' => e = .returned (.tuple #[.agg #[.int .i64 xk, .int .u64 xb, .int .i64 xc, .int .u64 xo, .int .u64 xn, .string xt], .bool xm]) ∧ _) at hAc
          clear hu hcell hz9 hzb hE
          replace hAc := Lib.hid hAc
          replace hact := Lib.hid hact
          replace hC := Lib.hid hC
          replace hA := Lib.hid hA
          replace hbj := Lib.hid hbj
          replace htj := Lib.hid htj
          replace hkn := Lib.hid hkn
          replace hft := Lib.hid hft
          go_wp2_with fail
          refine (hAc.out).mono ?_; rintro e w5 ⟨rfl, hb5⟩
          have hC5 := hC.out.keep (hb5.alloc hb5.size (.cells #[.int .i64 xk, .int .u64 xb, .int .i64 xc, .int .u64 xo, .int .u64 xn, .string xt] 31))
          have p5 := cel.out _ _ _ _ _ _ _ hC5 hbj.out
          have hE5 := hC5.each kk b hbj.out
          have hNx := next_own handRout hC5.own hE5.1 hE5.2.1 hE5.2.2 (by rw [hft.out]; decide) (by omega)
          clear hb5 p0 hc0 hE5 hAc
          replace hC5 := Lib.hid hC5
          replace hNx := Lib.hid hNx
          go_wp2_with fail
          refine (hNx.out).mono ?_; rintro e w6 ⟨⟨ak, ab, ac, ao, an, at_⟩, ⟨gw, gt⟩, is, rfl, S6, s6, F6, D6, hP⟩
          rw [show stepV 0 ⟨ak, ab, ac, ao, an, at_⟩ ⟨gw, gt⟩ = .agg #[.int .i64 0, .int .i64 ak, .int .u64 ab, .int .i64 ac, .int .u64 ao, .int .u64 an, .string at_, .int .u64 gw, .string gt] from rfl]
          obtain ⟨his, g6, os6, hA6, hla6⟩ := hand_pick hR hT.out hA.out htj.out hP
          have hC6 := hC5.out.step hbj.out hP.own hP.rt hP.off hP.sub hP.chg
          rw [hact.out] at his
          obtain rfl : is = xm := his
          clear hP hNx p5 hact
          replace hC6 := Lib.hid hC6
          replace hA6 := Lib.hid hA6
          cases is with
          | true =>
            go_wp2_with fail
            go_roundw
            case rel => exact ⟨k2 + 1, S6, F6, g6, _, os6, _, by omega, by go_num, hC6.out.keep (Below.more_ (Below.refl _ _) _), hA6.out, by omega⟩
            case measure => simp [intOf]; omega
          | false =>
            go_wp2_with fail
            go_roundw
            case rel => exact ⟨k2 + 1, S6, F6, g6, _, os6, _, by omega, by go_num, hC6.out.keep (Below.more_ (Below.refl _ _) _), hA6.out, by omega⟩
            case measure => simp [intOf]; omega
        · have d5 : decide ((k2 : Int) < (len1 : Int)) = false := by simpa using hlt2
          replace hC := Lib.hid hC
          replace hA := Lib.hid hA
          go_wp2_with fail
          go_loopw [16, 17] (fun nv iv wr => HH3 w1 len ts c hb bs (.slice (some ⟨gg, 0, none⟩) len cp) nv iv wr) (fun _ i _ => len + 1 - (intOf i).toNat)
          case atStart => exact ⟨0, S, F, g, ss, os, D, Nat.zero_le _, rfl, rfl, hC.out, hA.out, by omega, fun j hj => by omega⟩
          case round =>
            clear hC hA hla
            obtain ⟨k3, S, F, g, ss, os, D, hk3, rfl, rfl, hC, hA, hla, hpa⟩ := hrel
            have hcnl := cntO_le os k3
            have hft := hA.fs.faults
            by_cases hlt3 : k3 < len
            · have d6 : decide ((k3 : Int) < (len : Int)) = true := by simpa using hlt3
              have i1 : (0 : Int) ≤ (k3 : Int) := by omega
              have i2 : (k3 : Int) < (len : Int) := by omega
              have hl63 : (k3 : Int) + 1 ≤ 9223372036854775807 := by omega
              obtain ⟨b, hbj⟩ : ∃ b, bs[k3]? = some b := ⟨_, List.getElem?_eq_getElem (by have := hbl.out; omega)⟩
              obtain ⟨ad, u, rfl, hadb, hu, hcell⟩ := hr.out.at_ hlt3
              obtain ⟨t, htj, rfl⟩ : ∃ t, ts[k3]? = some t ∧ Value.string t = u := by simpa using hu
              have htc : ∀ W, Below w1.heap.size w1 W → W.cell? (ad.add k3) = some (.string t) := fun W h => keepc (hbw.out _ h) hadb hcell
              have p0 := cel.out _ _ _ _ _ _ _ hC hbj
              have hE := hC.each k3 b hbj
              have hAl := alone_own handRout hC.own hE.1 hE.2.1 hE.2.2 (by rw [hft]; decide) (by omega) 100 (by decide)
              obtain ⟨cn, hcn⟩ : ∃ cn, cntO os k3 = cn := ⟨_, rfl⟩
              rw [hcn] at hcnl ⊢
              have hcn63 : (cn : Int) + 1 ≤ 9223372036854775807 := by omega
              clear hu hcell hE
              replace hcn := Lib.hid hcn
              replace hAl := Lib.hid hAl
              replace hC := Lib.hid hC
              replace hA := Lib.hid hA
              replace hbj := Lib.hid hbj
              replace htj := Lib.hid htj
              replace htc := Lib.hid htc
              replace hft := Lib.hid hft
              replace hpa := Lib.hid hpa
              go_wp2_with fail
              refine (hAl.out).mono ?_; rintro e w4 ⟨xs, S4, s4, F4, D4, hRun, hstop, _, rfl, o4, hR4, hsub4, hch4, hoff4⟩
              obtain ⟨os4, hD⟩ := hand_done hR hT.out hA.out htj.out hRun hstop
              have hC4 := hC.out.step hbj.out o4 hR4 hoff4 hsub4 hch4
              have hact4 : (handRout.act s4).2 = false := by show (PHand.act s4).2 = false; simp [PHand.act, hD.part]
              rw [hact4]
              have hres := handResult_any hR4.2.2
              have hF4 := o4.heap.own
              have p4 := cel.out _ _ _ _ _ _ _ hC4 hbj.out
              have hla4 := hD.last
              have hcnt4 : cntO os4 k3 = cn := by rw [← hcn.out]; exact cntO_congr _ fun j hj => by rw [hD.same j (by omega)]
              obtain ⟨g4, hA4⟩ := hD.all
              have hpa4 : ∀ j, j < k3 + 1 → ((fun j => if j = k3 then s4 else ss j) j).part = 4 := fun j hj => by
                show (if j = k3 then s4 else ss j).part = 4
                by_cases hjk : j = k3
                · rw [if_pos hjk]; exact hD.part
                · rw [if_neg hjk]; exact hpa.out j (by omega)
              obtain ⟨R, ⟨hR2, y, hy, hyt, hyl⟩, hcase⟩ := hD.done
              have hsz : ((S4.find R).map fun x => (x.cells.length : Int)).getD 0 = 2 := by rw [hy]; show (y.cells.length : Int) = 2; omega
              have hbt : (t.toList == t.toList) = true := by simp
              clear hRun hstop hsub4 hch4 hoff4 hAl p0 hact4 hD o4 hR4
              replace hC4 := Lib.hid hC4
              replace hA4 := Lib.hid hA4
              replace hpa4 := Lib.hid hpa4
              replace hcnt4 := Lib.hid hcnt4
              replace hy := Lib.hid hy
              replace hyt := Lib.hid hyt
              replace hyl := Lib.hid hyl
              replace hsz := Lib.hid hsz
              replace hF4 := Lib.hid hF4
              rcases hcase with ⟨ho, hrs⟩ | ⟨tk, ho, htk, hrs, hat⟩
              · rw [hrs] at hres
                have hcn4 : cntO os4 (k3 + 1) = cn := by unfold cntO; rw [ho, hcnt4.out]; rfl
                clear hrs ho
                replace hcn4 := Lib.hid hcn4
                replace hres := Lib.hid hres
                go_wp2_with fail
                refine (hres.out).mono ?_; rintro e w5 ⟨rfl, hb5⟩
                have hC5 := hC4.out.keep (hb5.alloc hb5.size (.cells #[.bool true, .int .i64 0, .int .u64 R] 81))
                have H5 := Blk.new w5 81 #[.bool true, .int .i64 0, .int .u64 R]
                have d0 := H5.cell 0
                have d1 := H5.cell 1
                have d2 := H5.cell 2
                have hs5 := hb5.size
                have hWd := words_hit hC5.own.heap hy.out
                rw [hyt.out] at hWd
                clear hb5 hres p4
                replace hC5 := Lib.hid hC5
                replace hWd := Lib.hid hWd
                replace H5 := Lib.hid H5
                go_wp2_with fail
                refine (hWd.out).mono ?_; rintro e w6 ⟨rfl, hb6⟩
                have hC6 := hC5.out.keep hb6
                have H6 := H5.out.below hb6 H5.out.lt
                clear d0 d1 d2
                have d0 := H6.cell 0
                have d1 := H6.cell 1
                have d2 := H6.cell 2
                have rt := htc.out _ hC6.own.below
                obtain ⟨q0, q1, q2, q3, q4, q5⟩ := hcf.out _ hC6.own.below
                have hSz := size_any hC6.own.heap R
                rw [hsz.out] at hSz
                clear hb6 hWd
                replace hC6 := Lib.hid hC6
                replace H6 := Lib.hid H6
                replace hSz := Lib.hid hSz
                go_wp2_with fail
                refine (hSz.out).mono ?_; rintro e w7 ⟨rfl, rfl⟩
                go_wp2_with fail
                go_roundw
                case rel => exact ⟨k3 + 1, S4, F4, g4, _, os4, _, by omega, by go_num, by rw [hcn4.out], hC6.out, hA4.out, by omega, hpa4.out⟩
                case measure => simp [intOf]; omega
              · rw [hrs] at hres
                have hcn4 : cntO os4 (k3 + 1) = cn + 1 := by unfold cntO; rw [ho, hcnt4.out]; rfl
                have hra := ringAt_ok hR tk (by omega)
                have hrn : ((ringAt c tk).toNat : Int) = ringAt c tk := by omega
                have hRk := hRg.out (tk : Int) (by have := hR.cap; omega)
                have dtk : decide (c.cap ≤ (tk : Int)) = false := by simp; omega
                obtain ⟨ra, hra2⟩ : ∃ ra, ringAt c tk = ra := ⟨_, rfl⟩
                rw [hra2] at hRk hrn hat
                clear hrs ho hra
                replace hcn4 := Lib.hid hcn4
                replace hres := Lib.hid hres
                replace hRk := Lib.hid hRk
                replace hat := Lib.hid hat
                replace hrn := Lib.hid hrn
                replace hra2 := Lib.hid hra2
                go_wp2_with fail
                refine (hres.out).mono ?_; rintro e w5 ⟨rfl, hb5⟩
                have hC5 := hC4.out.keep (hb5.alloc hb5.size (.cells #[.bool false, .int .i64 (tk : Int), .int .u64 R] 81))
                have H5 := Blk.new w5 81 #[.bool false, .int .i64 (tk : Int), .int .u64 R]
                have d0 := H5.cell 0
                have d1 := H5.cell 1
                have d2 := H5.cell 2
                have hs5 := hb5.size
                have hWd := words_hit hC5.own.heap hy.out
                rw [hyt.out] at hWd
                clear hb5 hres p4
                replace hC5 := Lib.hid hC5
                replace hWd := Lib.hid hWd
                replace H5 := Lib.hid H5
                go_wp2_with fail
                refine (hWd.out).mono ?_; rintro e w6 ⟨rfl, hb6⟩
                have hC6 := hC5.out.keep hb6
                have H6 := H5.out.below hb6 H5.out.lt
                clear d0 d1 d2
                have d0 := H6.cell 0
                have d1 := H6.cell 1
                have d2 := H6.cell 2
                have rt := htc.out _ hC6.own.below
                obtain ⟨q0, q1, q2, q3, q4, q5⟩ := hcf.out _ hC6.own.below
                have hSz := size_any hC6.own.heap R
                rw [hsz.out] at hSz
                clear hb6 hWd
                replace hC6 := Lib.hid hC6
                replace H6 := Lib.hid H6
                replace hSz := Lib.hid hSz
                go_wp2_with fail
                refine (hSz.out).mono ?_; rintro e w7 ⟨rfl, rfl⟩
                go_wp2_with fail
                refine (hRk.out _).mono ?_; rintro e w8 ⟨rfl, hb8⟩
                have hC8 := hC6.out.keep hb8
                have H8 := H6.out.below hb8 H6.out.lt
                have hld := ctl_load hC8.own.heap hat.out
                rw [hrn.out] at hld
                clear hb8 d0 d1 d2 q0 q1 q2 q3 q4 q5
                replace hC8 := Lib.hid hC8
                replace H8 := Lib.hid H8
                replace hld := Lib.hid hld
                go_wp2_with fail
                refine (hld.out).mono ?_; rintro e w9 ⟨rfl, t9⟩
                have hC9 := hC8.out.turned t9
                have hnF : ¬ F4 w5.heap.size := fun h => by have := hF4.out _ h; omega
                have H9 := H8.out.keep (t9.2.block _ H8.out.lt hnF)
                have d0 := H9.cell 0
                have d1 := H9.cell 1
                have d2 := H9.cell 2
                obtain ⟨q0, q1, q2, q3, q4, q5⟩ := hcf.out _ hC9.own.below
                clear t9 H9 hnF hld
                replace hC9 := Lib.hid hC9
                go_wp2_with fail
                go_roundw
                case rel => exact ⟨k3 + 1, S4, _, g4, _, os4, _, by omega, by go_num, by rw [hcn4.out]; go_num, hC9.out, hA4.out, by omega, hpa4.out⟩
                case measure => simp [intOf]; omega
            · have d6 : decide ((k3 : Int) < (len : Int)) = false := by simpa using hlt3
              have hkl3 : k3 = len := by omega
              have hdn := hA.done (fun j hj => hpa j (by have := hlen.out; omega))
              rw [hlen.out] at hdn
              rw [hkl3]
              obtain ⟨cn, hcn⟩ : ∃ cn, cntO os len = cn := ⟨_, rfl⟩
              rw [hcn] at hdn ⊢
              have hFa : Calls Try.prog 31 #[.pointer (some ⟨hb, 0, none⟩)] wr fun e w' => e = .returned (.int .i64 0) ∧ wr = w' := by
                have h1 := faults_any hC.own.heap
                rw [hft] at h1
                exact h1
              have hw' := hbw.out _ hC.own.below
              obtain ⟨q0, q1, q2, q3, q4, q5⟩ := hcf.out _ hC.own.below
              have d7 : decide ((len : Int) < (len : Int)) = false := by simp
              clear hpa hcnl d6
              replace hcn := Lib.hid hcn
              replace hFa := Lib.hid hFa
              replace hw' := Lib.hid hw'
              replace hC := Lib.hid hC
              replace hA := Lib.hid hA
              replace hft := Lib.hid hft
              replace hkl3 := Lib.hid hkl3
              by_cases hcl : c.cap < (len : Int)
              · have de : ((cn : Int) == c.cap) = true := by simp; omega
                clear hdn
                go_wp2_with fail
                refine (hFa.out).mono ?_; rintro e w5 ⟨rfl, rfl⟩
                go_wp2_with fail
                refine (awake29 _).mono ?_; rintro e w7 ⟨rfl, hb7⟩
                go_wp2_with fail
                go_ret
                exact ⟨rfl, Below.next_ hw'.out hb7⟩
              · have de : ((cn : Int) == (len : Int)) = true := by simp; omega
                clear hdn
                go_wp2_with fail
                refine (hFa.out).mono ?_; rintro e w5 ⟨rfl, rfl⟩
                go_wp2_with fail
                refine (awake29 _).mono ?_; rintro e w7 ⟨rfl, hb7⟩
                go_wp2_with fail
                go_ret
                exact ⟨rfl, Below.next_ hw'.out hb7⟩
theorem walkHands29 (A A1 : Option Addr) (len cap len1 cap1 : Nat) (ts : List ByteArray) (hlen : ts.length = len) (zs : List Int) (hlen1 : zs.length = len1) (hzs : ∀ z ∈ zs, 0 ≤ z ∧ z ≤ 255) (c : PCfg) (w : World) (hr : Reads w w.heap.size 1 A len (ts.map Value.string)) (hr1 : Reads w w.heap.size 1 A1 len1 (zs.map (Value.int .u8))) :
    Calls Try.prog 7 #[c.val, .slice A len cap, .slice A1 len1 cap1] w fun e w' => e = .returned (.bool true) ∧ Below w.heap.size w w' := by
  by_cases h8 : 8 < len
  · exact handsSmall A A1 len cap len1 cap1 c (.inr (.inl h8)) w
  by_cases h0 : len = 0
  · exact handsSmall A A1 len cap len1 cap1 c (.inr (.inr (.inl h0))) w
  by_cases h2 : 200 < len1
  · exact handsSmall A A1 len cap len1 cap1 c (.inr (.inr (.inr h2))) w
  cases hright : c.right with
  | false => exact handsSmall A A1 len cap len1 cap1 c (.inl hright) w
  | true => exact handsWalk A A1 len cap len1 cap1 ts hlen (by omega) (by omega) zs hlen1 hzs (by omega) c ((PCfg.right_iff c).1 hright) w hr hr1
end Go.Proofs.Ytfelkkbgbgnpaaa
