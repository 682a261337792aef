/-
  The walk over the law of reading chains (layer 24). No condition.
-/
import Derived.Test.YtpldnbdcpihjcaaChainU
import Derived.Deep.CutRange
import Derived.StillTailTactics
import Derived.Deep.RegionLaw
namespace Go.Proofs.Ytpldnbdcpihjcaa
set_option linter.unusedVariables false
open Go.ChangeShapes Go.WideShapes Go.ChangeAt Go.RowKit
open Go.ChangeMaps (setBlock)

theorem reads_u64 (w : World) (x : Int) : Reads (w.alloc (.cells #[.int .u64 x] 22)) (w.heap.size + 1) 1 (some ⟨w.heap.size, 0, none⟩) 1 [.int .u64 x] := by
  refine ⟨rfl, fun _ => ⟨_, rfl, Nat.lt_succ_self _, fun j u hu => ?_⟩⟩
  cases j with
  | zero => exact ((Blk.new w 22 #[.int .u64 x]).cell 0).trans hu
  | succ j => simp at hu
theorem OwnK.wrote {w0 W W' : World} {hb : Nat} {S : PHeap} {F : Nat → Prop} {K : List (Nat × Obj)} {b : Nat} {o o' : Obj} (h : OwnK w0 hb S F ((b, o) :: K) W) (h0 : w0.heap.size ≤ b) (hK : ∀ x ∈ K, x.1 ≠ b) (hc : Chg (fun k => k = b) W W') (hb' : W'.heap[b]? = some o') : OwnK w0 hb S F ((b, o') :: K) W' :=
  ⟨h.own.off hc (fun k hk hF => (h.keep _ (List.mem_cons_self ..)).2 (by
    have e : k = b := hk
    exact e ▸ hF)) (fun k hk => by
    have e : k = b := hk
    omega), fun x hx => by
    rcases List.mem_cons.1 hx with rfl | hx
    · exact ⟨hb', (h.keep _ (List.mem_cons_self ..)).2⟩
    · obtain ⟨k1, k2⟩ := h.keep x (List.mem_cons_of_mem _ hx)
      exact ⟨(hc.block _ (h.lt (List.mem_cons_of_mem _ hx)) (hK x hx)).trans k1, k2⟩⟩
/-- Between two rounds of the second loop. -/
def CW2 (w1 : World) (hb : Nat) (S : PHeap) (K : List (Nat × Obj)) (en : Int) (av : Value) (wr : World) : Prop :=
  ∃ (a : Nat) (F : Nat → Prop), av = .int .u64 a ∧ (a : Int) ≤ en + 2 ∧ OwnK w1 hb S F K wr
/-- Between two rounds of the third loop. -/
def CW3 (w1 : World) (hb : Nat) (S : PHeap) (F : Nat → Prop) (K : List (Nat × Obj)) (vs : Nat → PVersion) (a : Nat) (k b : Nat) (pv iv : Value) (wr : World) : Prop :=
  ∃ (i : Nat), i ≤ k ∧ iv = .int .i64 i ∧ pv = .int .i64 (passedV k (wantV vs a i).2) ∧ OwnK w1 hb S F ((b, Obj.cells #[.bool (wantV vs a i).1.1, .string (wantV vs a i).1.2.1, .int .u64 (wantV vs a i).1.2.2] 67) :: K) wr
/-- Between two rounds of the first loop. -/
def CW1 (w w1 : World) (len1 len2 : Nat) (zs : List Int) (chs : List PChange) (c : PCfg) (hcl hb : Nat) (v8 v9 ev iv : Value) (wr : World) : Prop :=
  ∃ (k : Nat) (S : PHeap) (F : Nat → Prop) (ge gb : Nat) (oe ob : Obj), k ≤ len1 ∧ k ≤ len2 ∧ iv = .int .i64 k ∧ ev = .int .u64 (epochN zs k) ∧ URow v8 ge oe (esL zs k) ∧ URow v9 gb ob (bsL k) ∧ w1.heap.size ≤ ge ∧ w1.heap.size ≤ gb ∧ gb ≠ ge ∧
    OwnK w1 hb S F ((ge, oe) :: (gb, ob) :: [(w.heap.size, Obj.cells #[.int .i64 c.cap, .int .i64 c.pins, .int .i64 c.shelves, .int .i64 c.queue, .int .i64 c.watchers, .int .u64 c.seed] 24)]) wr ∧ Stack S hcl (revV (verOf zs chs) k) ∧ S.last = 1 + k
set_option maxRecDepth 100000 in
set_option maxHeartbeats 40000000 in
theorem walkChain (A1 : Option Addr) (len1 cap1 : Nat) (zs : List Int) (hlen1 : zs.length = len1) (hz0 : ∀ z ∈ zs, 0 ≤ z ∧ z ≤ 255) (hmax1 : len1 ≤ maxLen) (A2 : Option Addr) (len2 cap2 : Nat) (chs : List PChange) (hlen2 : chs.length = len2) (hmax2 : len2 ≤ maxLen) (c : PCfg) (w : World) (hr1 : Reads w w.heap.size 1 A1 len1 (zs.map (Value.int .u8))) (hr2 : Reads w w.heap.size 3 A2 len2 (chL chs)) :
    Calls Try.prog 6 #[c.val, .slice A1 len1 cap1, .slice A2 len2 cap2] w fun e w' => e = .returned (.bool true) ∧ Below w.heap.size w w' := by
  obtain ⟨i0, hi, hz0', hz1', hz2'⟩ : ∃ i, Try.prog.info? 22 = some i ∧ i.zero = some (.int .u64 0) ∧ i.size = 1 ∧ i.bytes = 8 := ⟨_, rfl, rfl, rfl, rfl⟩
  have hCV : c.val = .agg #[.int .i64 c.cap, .int .i64 c.pins, .int .i64 c.shelves, .int .i64 c.queue, .int .i64 c.watchers, .int .u64 c.seed] := rfl
  have hRR := fun W => right_cfg c W
  have hz : Below w.heap.size w (w.alloc (.cells #[.int .i64 c.cap, .int .i64 c.pins, .int .i64 c.shelves, .int .i64 c.queue, .int .i64 c.watchers, .int .u64 c.seed] 24)) := (Below.refl _ _).alloc (Nat.le_refl _) _
  have B0 := Blk.new w 24 #[.int .i64 c.cap, .int .i64 c.pins, .int .i64 c.shelves, .int .i64 c.queue, .int .i64 c.watchers, .int .u64 c.seed]
  replace hmax1 : len1 ≤ 9223372036854775807 := by unfold maxLen at hmax1; omega
  replace hmax2 : len2 ≤ 9223372036854775807 := by unfold maxLen at hmax2; omega
  have hFd : c.Right → ∀ W, _ := fun h W => field_any c h W
  have hNw : ∀ (h : c.Right) (e : Int) (he : 0 ≤ e ∧ e ≤ 18446744073709551615), ∀ W, _ := fun h e he W => chainNew_any c h 0 ⟨by omega, by have := h.shelves; omega⟩ e he W
  obtain ⟨hcl, hhc⟩ : ∃ hcl : Nat, c.Right → 3 + c.pins + c.cap + 2 * ((0 : Nat) : Int) + 1 = (hcl : Int) := ⟨(3 + c.pins + c.cap + 1).toNat, fun h => by have := h.pins; have := h.cap; omega⟩
  have hPu : ∀ (h : c.Right) (w0 W : World) hb S F K l (e : Int) (v : PChange), OwnK w0 hb S F K W → Stack S hcl l → S.last ≤ 1000 → (0 ≤ e ∧ e ≤ 18446744073709551615) → v.value.size ≤ 1000 → _ := fun h w0 W hb S F K l e v o hst hl he hv => push_st c h (w0 := w0) (w := W) (hb := hb) (S := S) (F := F) (K := K) o 0 (by have := h.shelves; omega) hcl (hhc h) (l := l) hst e he v hv hl
  rw [hCV] at hRR hFd hNw hPu ⊢
  rw [show ((0 : Nat) : Int) = 0 from rfl] at hPu hhc
  clear hCV
  replace hNw := Lib.hid hNw
  replace hPu := Lib.hid hPu
  replace hhc := Lib.hid hhc
  replace hFd := Lib.hid hFd
  replace hr1 := Lib.hid hr1
  replace hr2 := Lib.hid hr2
  replace hz := Lib.hid hz
  replace B0 := Lib.hid B0
  have hbad : (c.right = false) ∨ (c.right = true ∧ 30 < len1) ∨ (c.right = true ∧ ¬ 30 < len1) := by
    cases c.right <;> simp <;> omega
  rcases hbad with h1 | ⟨h1, h2⟩ | ⟨h1, h2⟩
  · rw [h1] at hRR
    replace hRR := Lib.hid hRR
    replace h1 := Lib.hid h1
    as_aux_lemma =>
      go_enter Try.func6, Try.ntmps6
      go_wp2_with fail
      refine (hRR.out _).mono ?_; rintro e w1 ⟨rfl, hb1⟩
      go_wp2_with fail
      refine (awake24 _).mono ?_; rintro e w7 ⟨rfl, hb7⟩
      go_wp2_with fail
      go_ret
      have h1 := nx hz.out (Nat.le_refl _) hb1
      exact ⟨rfl, h1.trans (hb7.mono h1.size)⟩
  · rw [h1] at hRR
    have d1 : decide ((30 : Int) < (len1 : Int)) = true := by simp; omega
    replace hRR := Lib.hid hRR
    replace h1 := Lib.hid h1
    as_aux_lemma =>
      go_enter Try.func6, Try.ntmps6
      go_wp2_with fail
      refine (hRR.out _).mono ?_; rintro e w1 ⟨rfl, hb1⟩
      go_wp2_with fail
      refine (awake24 _).mono ?_; rintro e w7 ⟨rfl, hb7⟩
      go_wp2_with fail
      go_ret
      have h1 := nx hz.out (Nat.le_refl _) hb1
      exact ⟨rfl, h1.trans (hb7.mono h1.size)⟩
  rw [h1] at hRR
  have hR := (PCfg.right_iff c).1 h1
  have hsh := hR.shelves
  have d1 : decide ((30 : Int) < (len1 : Int)) = false := by simp; omega
  have hl30 : len1 ≤ 30 := by omega
  replace h1 := Lib.hid h1
  replace h2 := Lib.hid h2
  replace hRR := Lib.hid hRR
  go_enter Try.func6, Try.ntmps6
  go_wp2_with fail
  refine (hRR.out _).mono ?_; rintro e w1 ⟨rfl, hb1⟩
  have C1 := B0.out.below hb1 (by simp)
  have hz1 := nx hz.out (Nat.le_refl _) hb1
  have c0 := C1.cell 0
  have c1 := C1.cell 1
  have c2 := C1.cell 2
  have c3 := C1.cell 3
  have c4 := C1.cell 4
  have c5 := C1.cell 5
  clear hb1
  replace C1 := Lib.hid C1
  replace hz1 := Lib.hid hz1
  go_wp2_with fail
  refine (hFd.out hR _).mono ?_; rintro e w2 ⟨hb, r, rfl, s2⟩
  obtain ⟨F2, o2⟩ := Own.of_sess s2
  have hF2 := o2.heap.own
  have C2 := C1.out.below s2.below C1.out.lt
  have hw1 := C1.out.lt
  have hw12 := o2.below.size
  have hOK0 : OwnK w1 hb (fieldS c r) F2 [(w.heap.size, Obj.cells #[.int .i64 c.cap, .int .i64 c.pins, .int .i64 c.shelves, .int .i64 c.queue, .int .i64 c.watchers, .int .u64 c.seed] 24)] w2 := ⟨o2, fun x hx => by
    simp only [List.mem_cons, List.not_mem_nil, or_false] at hx
    subst hx
    exact ⟨C2, fun h => by have := o2.new _ h; omega⟩⟩
  have hOK : OwnK w1 hb (fieldS c r) F2 ((w2.heap.size, Obj.cells #[] 22) :: (w2.heap.size + 1, Obj.cells #[] 22) :: [(w.heap.size, Obj.cells #[.int .i64 c.cap, .int .i64 c.pins, .int .i64 c.shelves, .int .i64 c.queue, .int .i64 c.watchers, .int .u64 c.seed] 24)]) ((w2.alloc (.cells #[] 22)).alloc (.cells #[] 22)) := by
    have h := ((hOK0.add (.cells #[] 22)).add (.cells #[] 22)).swap
    simpa only [World.size_alloc] using h
  have hst2 : Stack (fieldS c r) hcl [] := field_stack c hR r hcl (by have := (ctlSize_eq hR).1; have := hhc.out hR; omega)
  clear s2 c0 c1 c2 c3 c4 c5 o2 C2 hOK0
  replace hOK := Lib.hid hOK
  replace hst2 := Lib.hid hst2
  go_wp2_with fail
  go_loopw [8, 9, 10, 11] (fun v8 v9 ev iv wr => CW1 w w1 len1 len2 zs chs c hcl hb v8 v9 ev iv wr) (fun _ _ _ i _ => len1 + 1 - (intOf i).toNat)
  case atStart => exact ⟨0, fieldS c r, F2, _, _, _, _, Nat.zero_le _, Nat.zero_le _, rfl, rfl, URow.nil _, URow.nil _, hw12, by omega, by omega, hOK.out, hst2.out, rfl⟩
  case round =>
    clear hOK hst2
    obtain ⟨k, S, F, ge, gb, oe, ob, hk1, hk2, rfl, rfl, hue, hub, hge, hgb, hne, o, hst, hla⟩ := hrel
    have hep := epochN_ok zs k
    have hgeC : ge ≠ w.heap.size := by omega
    have hgbC : gb ≠ w.heap.size := by omega
    have hbw : ∀ (W : World) (S : PHeap) (F : Nat → Prop) (K : List (Nat × Obj)), OwnK w1 hb S F K W → Below w.heap.size w W := fun W S F K h => hz1.out.trans (h.own.below.mono hz1.out.size)
    obtain ⟨cape, hve⟩ := hue.slice
    obtain ⟨capb, hvb⟩ := hub.slice
    rw [esL_len] at hve
    rw [bsL_len] at hvb
    subst hve hvb
    obtain ⟨bt, hbt⟩ : ∃ bt : Bool, bt = decide (k < len1 ∧ k < len2) := ⟨_, rfl⟩
    go_upto_region 8 with fail
    go_cut [43] from 34 to 77 (fun v43 wx => v43 = .bool bt ∧ wx = wr)
    case first =>
      replace hbt := Lib.hid hbt
      replace o := Lib.hid o
      replace hst := Lib.hid hst
      replace hue := Lib.hid hue
      replace hub := Lib.hid hub
      by_cases h1 : k < len1
      · have e1 : decide ((k : Int) < (len1 : Int)) = true := by simp; omega
        by_cases h2 : k < len2
        · have e2 : decide ((k : Int) < (len2 : Int)) = true := by simp; omega
          go_wp2_with fail
          go_meet
          case rel => exact ⟨by rw [hbt.out, decide_eq_true ⟨h1, h2⟩], rfl⟩
        · have e2 : decide ((k : Int) < (len2 : Int)) = false := by simp; omega
          go_wp2_with fail
          go_meet
          case rel => exact ⟨by rw [hbt.out, decide_eq_false (fun h => h2 h.2)], rfl⟩
      · have e1 : decide ((k : Int) < (len1 : Int)) = false := by simp; omega
        go_wp2_with fail
        go_meet
        case rel => exact ⟨by rw [hbt.out, decide_eq_false (fun h => h1 h.1)], rfl⟩
    case rest =>
    obtain ⟨rfl, hwc⟩ := hcut
    subst hwc
    obtain ⟨wr, hwr⟩ : ∃ wr : World, wr = wc := ⟨_, rfl⟩
    subst hwr
    by_cases hlt : k < len1 ∧ k < len2
    · have hbt1 : bt = true := by rw [hbt]; exact decide_eq_true hlt
      subst hbt1
      clear hbt
      have i1 : (0 : Int) ≤ (k : Int) := by omega
      have i2 : (k : Int) < (len1 : Int) := by omega
      have i3 : (k : Int) < (len2 : Int) := by omega
      obtain ⟨ad, u, rfl, hadb, hu, hcell⟩ := hr1.out.at_ hlt.1
      obtain ⟨z, hz9, rfl⟩ : ∃ z, zs[k]? = some z ∧ Value.int .u8 z = u := by simpa using hu
      have hzb := hz0 z (List.mem_of_getElem? hz9)
      obtain ⟨v, hv⟩ : ∃ v, chs[k]? = some v := ⟨_, List.getElem?_eq_getElem (by omega)⟩
      obtain ⟨ad2, rfl, hadb2, hcl2⟩ := hr2.out.2 (show 0 < len2 by omega)
      obtain ⟨q0, q1, q2⟩ := chL_at chs k v hv
      have p0 := keepc (hbw _ _ _ _ o) hadb hcell
      have hfl : ∀ (W : World) (S : PHeap) (F : Nat → Prop) (K : List (Nat × Obj)), OwnK w1 hb S F K W → W.cell? (ad2.add (k * 3)) = some (.string v.key) ∧ W.cell? ⟨(ad2.add (k * 3)).block, (ad2.add (k * 3)).off + 1, none⟩ = some (.bool v.has) ∧ W.cell? ⟨(ad2.add (k * 3)).block, (ad2.add (k * 3)).off + 2, none⟩ = some (.string v.value) := fun W S F K h => by
        refine ⟨keepc (hbw _ _ _ _ h) hadb2 (hcl2 _ _ q0), ?_, ?_⟩
        · have e : (⟨(ad2.add (k * 3)).block, (ad2.add (k * 3)).off + 1, none⟩ : Addr) = (ad2.add (k * 3)).add 1 := rfl
          rw [e, add_of_add]
          exact keepc (hbw _ _ _ _ h) hadb2 (hcl2 _ _ q1)
        · have e : (⟨(ad2.add (k * 3)).block, (ad2.add (k * 3)).off + 2, none⟩ : Addr) = (ad2.add (k * 3)).add 2 := rfl
          rw [e, add_of_add]
          exact keepc (hbw _ _ _ _ h) hadb2 (hcl2 _ _ q2)
      obtain ⟨r0, r1, r2⟩ := hfl _ _ _ _ o
      replace hfl := Lib.hid hfl
      clear hu hcell q0 q1 q2 hcl2
      by_cases hbig : 200 < v.value.size
      · have d4 : decide ((200 : Int) < (v.value.size : Int)) = true := by simp; omega
        have hw' := hbw _ _ _ _ o
        replace o := Lib.hid o
        replace hst := Lib.hid hst
        replace hue := Lib.hid hue
        replace hub := Lib.hid hub
        replace hv := Lib.hid hv
        replace hz9 := Lib.hid hz9
        as_aux_lemma =>
          go_wp2_with fail
          refine (awake24 _).mono ?_; rintro e w7 ⟨rfl, hb7⟩
          go_wp2_with fail
          go_ret
          exact ⟨rfl, Below.next_ hw' hb7⟩
      have d4 : decide ((200 : Int) < (v.value.size : Int)) = false := by simp; omega
      obtain ⟨z5, hz5, hz5b⟩ : ∃ z5, z.tmod 5 = z5 ∧ 0 ≤ z5 ∧ z5 < 5 := ⟨_, rfl, by rw [Int.tmod_eq_emod_of_nonneg hzb.1]; omega, by rw [Int.tmod_eq_emod_of_nonneg hzb.1]; omega⟩
      have hen : epochN zs k + z5 + 1 = epochN zs (k + 1) := by
        have e : epochN zs (k + 1) = epochN zs k + zs.getD k 0 % 5 + 1 := rfl
        have e2 : zs.getD k 0 = z := by rw [List.getD_eq_getElem?_getD, hz9]; rfl
        rw [e, e2, ← hz5, Int.tmod_eq_emod_of_nonneg hzb.1]
      have hsu := esL_succ zs k
      rw [← hen] at hsu
      generalize epochN zs k = en at *
      have hrow := hue.own (o.keep _ (List.mem_cons_self ..)).1 hge
      rw [esL_len] at hrow
      have oA := o.below (Below.more_ (Below.refl _ _) (.cells #[.int .u64 (en + z5 + 1)] 22))
      have hrowA := hue.own (oA.keep _ (List.mem_cons_self ..)).1 hge
      rw [esL_len] at hrowA
      have hwrs := o.own.below.size
      replace hz9 := Lib.hid hz9
      replace hv := Lib.hid hv
      replace o := Lib.hid o
      replace oA := Lib.hid oA
      replace hst := Lib.hid hst
      replace hue := Lib.hid hue
      replace hub := Lib.hid hub
      replace hrow := Lib.hid hrow
      replace hrowA := Lib.hid hrowA
      replace hsu := Lib.hid hsu
      replace hbw := Lib.hid hbw
      replace hen := Lib.hid hen
      go_wp2_with (at_builtin; go_loud (refine wpList_append_any _ rfl _ _ 62 rfl w1.heap.size 22 i0 (.int .u64 0) 1 8 Try.underlying62 hi hz0' hz1' hz2' rfl (by decide) _ _ _ rfl hrowA.out (wr.heap.size + 1) (some ⟨wr.heap.size, 0, none⟩) 1 1 [.int .u64 (en + z5 + 1)] rfl (reads_u64 wr _) (by simp [Value.oneCell']) (by unfold maxLen; omega) (by omega) (by simp; omega) ?_; intro v8' w5 hown5 hgrow hloc; replace hown5 := Lib.hid hown5; replace hgrow := Lib.hid hgrow; replace hloc := Lib.hid hloc))
      have hrow5 : w5.ownsRow w1.heap.size 22 1 v8' (k + 1) ((esL zs (k + 1)).map (Value.int .u64)) := by
        have h := hown5.out
        rw [← hsu.out, List.map_append]
        exact h
      obtain ⟨ge', oe', hge5, hue5, hgeb⟩ := URow.of_own hrow5 (by omega)
      have hlc : ge' = ge ∨ ge' = (wr.alloc (.cells #[.int .u64 (en + z5 + 1)] 22)).heap.size := by
        have h := hloc.out
        rw [hue5.block] at h
        rcases h with h | h
        · exact .inl (Option.some.inj h)
        · exact .inr (Option.some.inj h)
      obtain ⟨o5, hK5, _⟩ := oA.out.grow hge (fun x hx => by
        simp only [List.mem_cons, List.not_mem_nil, or_false] at hx
        rcases hx with rfl | rfl
        · exact hne
        · exact hgeC.symm) hgrow.out hlc hge5
      have hne5 : gb ≠ ge' := hK5 _ (List.mem_cons_self ..)
      have hgeC5 : w.heap.size ≠ ge' := hK5 _ (List.mem_cons_of_mem _ (List.mem_cons_self ..))
      clear r0 r1 r2 p0 hK5 hlc hge5 hrow5 hown5 hgrow hloc hrow hrowA oA
      obtain ⟨r0, r1, r2⟩ := hfl.out _ _ _ _ o5
      have B5 := o5.blk (List.mem_cons_of_mem _ (List.mem_cons_of_mem _ (List.mem_cons_self ..)))
      have c0 := B5.cell 0
      have c1 := B5.cell 1
      have c2 := B5.cell 2
      have c3 := B5.cell 3
      have c4 := B5.cell 4
      have c5 := B5.cell 5
      have hPc := fun W (h : OwnK w1 hb S F ((ge', oe') :: (gb, ob) :: [(w.heap.size, Obj.cells #[.int .i64 c.cap, .int .i64 c.pins, .int .i64 c.shelves, .int .i64 c.queue, .int .i64 c.watchers, .int .u64 c.seed] 24)]) W) => hPu.out hR _ _ _ _ _ _ _ (en + z5 + 1) v h hst.out (by omega) (by omega) (by omega)
      have hbb : ∀ W S F, OwnK w1 hb S F ((ge', oe') :: (gb, ob) :: [(w.heap.size, Obj.cells #[.int .i64 c.cap, .int .i64 c.pins, .int .i64 c.shelves, .int .i64 c.queue, .int .i64 c.watchers, .int .u64 c.seed] 24)]) W → OwnK w1 hb S F ((gb, ob) :: (ge', oe') :: [(w.heap.size, Obj.cells #[.int .i64 c.cap, .int .i64 c.pins, .int .i64 c.shelves, .int .i64 c.queue, .int .i64 c.watchers, .int .u64 c.seed] 24)]) (W.alloc (.cells #[.int .u64 (S.last)] 22)) ∧ (W.alloc (.cells #[.int .u64 (S.last)] 22)).ownsRow w1.heap.size 22 1 (.slice (some ⟨gb, 0, none⟩) k capb) k ((bsL k).map (Value.int .u64)) ∧ w1.heap.size ≤ (W.alloc (.cells #[.int .u64 (S.last)] 22)).heap.size := fun W S F h => by
        have h2 := h.swap.below (Below.more_ (Below.refl _ _) (.cells #[.int .u64 (S.last)] 22))
        have h3 := hub.out.own (h2.keep _ (List.mem_cons_self ..)).1 hgb
        rw [bsL_len] at h3
        exact ⟨h2, h3, h2.own.below.size⟩
      clear B5 o
      replace hPc := Lib.hid hPc
      replace hbb := Lib.hid hbb
      replace hue5 := Lib.hid hue5
      replace o5 := Lib.hid o5
      go_wp2_with fail
      go_region_law (first | (refine step_append_any _ rfl (.tmp 67) (.tmp 76) 62 rfl w1.heap.size 22 i0 (.int .u64 0) 1 8 Try.underlying62 hi hz0' hz1' hz2' rfl (by decide) (.slice (some ⟨gb, 0, none⟩) k capb) k ((bsL k).map (Value.int .u64)) (by simp [Act.eval]) hB6.out.2.1 (w6.heap.size + 1) (some ⟨w6.heap.size, 0, none⟩) 1 1 [.int .u64 S6.last] (by simp [Act.eval]) (reads_u64 w6 _) (by simp [Value.oneCell']) (by unfold maxLen; omega) (by omega) hB6.out.2.2 ?_; intro v9' w7 hown7 hgrow7 hloc7; replace hown7 := Lib.hid hown7; replace hgrow7 := Lib.hid hgrow7; replace hloc7 := Lib.hid hloc7) | (go_simp; go_at_call 28; refine (hPc.out _ (by first | exact o5.out | exact o5.out.drew | exact o5.out.drewN _)).mono ?_; rintro e w6 ⟨S6, F6, rfl, o6, hst6, hla6⟩; rw [← hla6]; have hB6 := hbb.out _ _ _ o6; replace hst6 := Lib.hid hst6; replace hla6 := Lib.hid hla6; replace hB6 := Lib.hid hB6; replace o6 := Lib.hid o6))
      all_goals
        as_aux_lemma =>
          have hbs : bsL k ++ [S6.last] = bsL (k + 1) := by
            rw [show S6.last = (k : Int) + 2 by have := hla6.out; omega]
            exact bsL_succ k
          have hrow7 : w7.ownsRow w1.heap.size 22 1 v9' (k + 1) ((bsL (k + 1)).map (Value.int .u64)) := by
            have h := hown7.out
            rw [← hbs, List.map_append]
            exact h
          obtain ⟨gb', ob', hgb7, hub7, hgbb⟩ := URow.of_own hrow7 (by omega)
          have hlc : gb' = gb ∨ gb' = (w6.alloc (.cells #[.int .u64 S6.last] 22)).heap.size := by
            have h := hloc7.out
            rw [hub7.block] at h
            rcases h with h | h
            · exact .inl (Option.some.inj h)
            · exact .inr (Option.some.inj h)
          obtain ⟨o7, hK7, _⟩ := hB6.out.1.grow hgb (fun x hx => by
            simp only [List.mem_cons, List.not_mem_nil, or_false] at hx
            rcases hx with rfl | rfl
            · exact hne5.symm
            · exact hgbC.symm) hgrow7.out hlc hgb7
          have hne7 : ge' ≠ gb' := hK7 _ (List.mem_cons_self ..)
          have hver : (⟨S.last + 1, en + z5 + 1, v.has, v.value⟩ : PVersion) = verOf zs chs k := by
            have e2 : chs.getD k chN = v := by rw [List.getD_eq_getElem?_getD, hv.out]; rfl
            show _ = (⟨(k : Int) + 2, epochN zs (k + 1), (chs.getD k chN).has, (chs.getD k chN).value⟩ : PVersion)
            rw [e2, hen.out, show S.last + 1 = (k : Int) + 2 by omega]
          have hst7 : Stack S6 hcl (revV (verOf zs chs) (k + 1)) := by
            have h := hst6.out
            rw [hver] at h
            exact h
          have hla7 : S6.last = 1 + ((k + 1 : Nat) : Int) := by have := hla6.out; omega
          have o8 := Lib.hid o7.swap
          clear o7 hK7 hB6 hlc hrow7 hver
          replace hst7 := Lib.hid hst7
          replace hla7 := Lib.hid hla7
          replace hub7 := Lib.hid hub7
          replace hgb7 := Lib.hid hgb7
          go_wp2_with fail
          go_roundw
          case rel => first | exact ⟨k + 1, S6, F6, ge', gb', oe', ob', by omega, by omega, by go_num, by rw [hen.out], hue5.out, hub7.out, hgeb, hgbb, hne7.symm, o8.out, hst7.out, hla7.out⟩ | ((repeat apply Exists.intro); refine ⟨?rr, ?ff⟩; (case ff => first | exact rfl | (apply act_eq; apply slots_eq; repeat' (first | apply cons_eq | exact rfl | (apply congrArg Value.bool; first | (simp; done) | (simp; omega)) | (simp [*]; done)))); (case rr => exact ⟨k + 1, S6, F6, ge', gb', oe', ob', by omega, by omega, by go_num, by rw [hen.out], hue5.out, hub7.out, hgeb, hgbb, hne7.symm, o8.out, hst7.out, hla7.out⟩))
          case measure => first | (simp [intOf]; done) | (simp [intOf]; omega)
    · have hbt1 : bt = false := by rw [hbt]; exact decide_eq_false hlt
      subst hbt1
      clear hbt
      have hwo := hbw _ _ _ _ o
      have hsl1 := hst.one
      have hfau := hst.faults
      have hkl := fun i (h : i < k) => esL_at zs h
      have hbl := fun i (h : i < k) => bsL_at h
      have hwrs := o.own.below.size
      generalize hen : epochN zs k = en at *
      obtain ⟨w8, hw8⟩ : ∃ w8 : World, w8 = wr := ⟨_, rfl⟩
      subst hw8
      clear hlt
      replace hen := Lib.hid hen
      replace o := Lib.hid o
      replace hst := Lib.hid hst
      replace hue := Lib.hid hue
      replace hub := Lib.hid hub
      replace hbw := Lib.hid hbw
      replace hkl := Lib.hid hkl
      replace hbl := Lib.hid hbl
      replace hz1' := Lib.hid hz1'
      replace hz2' := Lib.hid hz2'
      replace hi := Lib.hid hi
      go_wp2_with fail
      go_loopw [12] (fun av wx => CW2 w1 hb S ((ge, oe) :: (gb, ob) :: [(w.heap.size, Obj.cells #[.int .i64 c.cap, .int .i64 c.pins, .int .i64 c.shelves, .int .i64 c.queue, .int .i64 c.watchers, .int .u64 c.seed] 24)]) en av wx) (fun a _ => (en + 3).toNat - (intOf a).toNat)
      case atStart => exact ⟨0, F, rfl, by omega, o.out⟩
      case round =>
        clear o
        obtain ⟨a, Fa, rfl, ha, o⟩ := hrel
        by_cases hae : (a : Int) ≤ en + 1
        · have e5 : decide ((a : Int) ≤ en + 1) = true := by simp; omega
          have hwr2 := o.own.below.size
          have hgl := o.lt (List.mem_cons_self ..)
          have hbl2 := o.lt (List.mem_cons_of_mem _ (List.mem_cons_self ..))
          simp only at hgl hbl2
          have o3 := o.add (.cells #[.bool false, .string ⟨#[]⟩, .int .u64 0] 67)
          obtain ⟨w9, hw9⟩ : ∃ w9 : World, w9 = wr := ⟨_, rfl⟩
          subst hw9
          replace o := Lib.hid o
          replace o3 := Lib.hid o3
          go_wp2_with fail
          go_loopw [14, 15] (fun pv iv wx => CW3 w1 hb S Fa ((ge, oe) :: (gb, ob) :: [(w.heap.size, Obj.cells #[.int .i64 c.cap, .int .i64 c.pins, .int .i64 c.shelves, .int .i64 c.queue, .int .i64 c.watchers, .int .u64 c.seed] 24)]) (verOf zs chs) a k w9.heap.size pv iv wx) (fun _ i _ => k + 1 - (intOf i).toNat)
          case atStart => exact ⟨0, Nat.zero_le _, rfl, rfl, o3.out⟩
          case round =>
            clear o3 o
            obtain ⟨i, hik, rfl, rfl, o⟩ := hrel
            by_cases hik2 : i < k
            · have e6 : decide ((i : Int) < (k : Int)) = true := by simp; omega
              have j1 : (0 : Int) ≤ (i : Int) := by omega
              have j2 : (i : Int) < (k : Int) := by omega
              have j3 : (i : Int) < (len2 : Int) := by omega
              obtain ⟨v, hv⟩ : ∃ v, chs[i]? = some v := ⟨_, List.getElem?_eq_getElem (by omega)⟩
              obtain ⟨ad2, rfl, hadb2, hcl2⟩ := hr2.out.2 (show 0 < len2 by omega)
              obtain ⟨q0, q1, q2⟩ := chL_at chs i v hv
              have hwm := hbw.out _ _ _ _ o
              have r1 : wr.cell? ⟨(ad2.add (i * 3)).block, (ad2.add (i * 3)).off + 1, none⟩ = some (.bool v.has) := by
                have e : (⟨(ad2.add (i * 3)).block, (ad2.add (i * 3)).off + 1, none⟩ : Addr) = (ad2.add (i * 3)).add 1 := rfl
                rw [e, add_of_add]
                exact keepc hwm hadb2 (hcl2 _ _ q1)
              have r2 : wr.cell? ⟨(ad2.add (i * 3)).block, (ad2.add (i * 3)).off + 2, none⟩ = some (.string v.value) := by
                have e : (⟨(ad2.add (i * 3)).block, (ad2.add (i * 3)).off + 2, none⟩ : Addr) = (ad2.add (i * 3)).add 2 := rfl
                rw [e, add_of_add]
                exact keepc hwm hadb2 (hcl2 _ _ q2)
              have hab : (ad2.add (i * 3)).block = ad2.block := by unfold Addr.add; split <;> rfl
              have hn1 : ¬ (ad2.add (i * 3)).block = w9.heap.size := by rw [hab]; have := hz1.out.size; omega
              have hn2 : ¬ w9.heap.size = (ad2.add (i * 3)).block := by rw [hab]; have := hz1.out.size; omega
              have hn3 : ¬ ge = w9.heap.size := by omega
              have hn4 : ¬ w9.heap.size = ge := by omega
              have hn5 : ¬ gb = w9.heap.size := by omega
              have hn6 : ¬ w9.heap.size = gb := by omega
              have E0 := hue.out.cell (o.keep _ (List.mem_cons_of_mem _ (List.mem_cons_self ..))).1 (hkl.out i hik2)
              have E1 := hub.out.cell (o.keep _ (List.mem_cons_of_mem _ (List.mem_cons_of_mem _ (List.mem_cons_self ..)))).1 (hbl.out i hik2)
              have hge2 : (verOf zs chs i).epoch = epochN zs (i + 1) := rfl
              have hsh2 : (verOf zs chs i).shown = (v.has, if v.has then v.value else ByteArray.empty, (i : Int) + 2) := by
                have e2 : chs.getD i chN = v := by rw [List.getD_eq_getElem?_getD, hv]; rfl
                unfold PVersion.shown verOf
                rw [e2]
              have hep1 := epochN_ok zs (i + 1)
              have hwn : wantV (verOf zs chs) a (i + 1) = if epochN zs (i + 1) ≤ (a : Int) then ((v.has, if v.has then v.value else ByteArray.empty, (i : Int) + 2), some i) else wantV (verOf zs chs) a i := by
                show (if (verOf zs chs i).epoch ≤ (a : Int) then ((verOf zs chs i).shown, some i) else wantV (verOf zs chs) a i) = _
                rw [hsh2]
                rfl
              clear q0 q1 q2 hcl2 hv hge2 hsh2 hab
              generalize epochN zs (i + 1) = ei at *
              have W9 := o.blk (List.mem_cons_self ..)
              have x0 := W9.cell 0
              have x1 := W9.cell 1
              have x2 := W9.cell 2
              have g0 := W9.frozen 0
              have g1 := W9.frozen 1
              have g2 := W9.frozen 2
              by_cases hle : ei ≤ (a : Int)
              · have e7 : decide (ei ≤ (a : Int)) = true := by simp; omega
                rw [if_pos hle] at hwn
                cases hvh : v.has with
                | false =>
                  rw [hvh] at hwn r1
                  replace hwn := Lib.hid hwn
                  have fin : ∀ W, Chg (fun n => n = w9.heap.size) wr W → Blk W w9.heap.size 67 #[.bool false, .string ⟨#[]⟩, .int .u64 ((i : Int) + 2)] → OwnK w1 hb S Fa ((w9.heap.size, Obj.cells #[.bool (wantV (verOf zs chs) a (i + 1)).1.1, .string (wantV (verOf zs chs) a (i + 1)).1.2.1, .int .u64 (wantV (verOf zs chs) a (i + 1)).1.2.2] 67) :: ((ge, oe) :: (gb, ob) :: [(w.heap.size, Obj.cells #[.int .i64 c.cap, .int .i64 c.pins, .int .i64 c.shelves, .int .i64 c.queue, .int .i64 c.watchers, .int .u64 c.seed] 24)])) W := fun W hc hB => by
                    rw [hwn.out]
                    exact o.wrote (by omega) (fun x hx => by
                      simp only [List.mem_cons, List.not_mem_nil, or_false] at hx
                      rcases hx with rfl | rfl | rfl
                      · exact hn3
                      · exact hn5
                      · show w.heap.size ≠ _
                        omega) hc hB
                  replace fin := Lib.hid fin
                  have W9h := Lib.hid W9
                  clear W9
                  replace o := Lib.hid o
                  as_aux_lemma =>
                    go_wp2_with fail
                    go_still_tail 10, (by kernel_rfl)
                    change wpList _ _ _ _ _ wr.drew
                    go_wp2_with fail

                    go_roundw
                    case rel => first | exact ⟨i + 1, by omega, by go_num, by rw [hwn.out]; show _ = Value.int .i64 ((k : Int) - 1 - i); go_num, fin.out _ (by (repeat first | exact Chg.refl _ _ | assumption | refine Chg.drew ?_ | refine Chg.drewN ?_ _ | refine Chg.alloc ?_ _ | refine Chg.setCell ?_ (by first | (left; rfl) | (left; assumption) | (right; exact Nat.le_refl _) | (right; simp; done) | (right; simp; omega)) _ | refine Chg.setBlock ?_ (by first | (left; rfl) | (left; assumption) | (right; exact Nat.le_refl _) | (right; simp; done) | (right; simp; omega)) _)) (((W9h.out.set_ 0 _).set_ 1 _).set_ 2 _)⟩ | ((repeat apply Exists.intro); refine ⟨?rr, ?ff⟩; (case ff => first | exact rfl | (apply act_eq; apply slots_eq; repeat' (first | apply cons_eq | exact rfl | (apply congrArg Value.bool; first | (simp; done) | (simp; omega)) | (simp [*]; done)))); (case rr => exact ⟨i + 1, by omega, by go_num, by rw [hwn.out]; show _ = Value.int .i64 ((k : Int) - 1 - i); go_num, fin.out _ (by (repeat first | exact Chg.refl _ _ | assumption | refine Chg.drew ?_ | refine Chg.drewN ?_ _ | refine Chg.alloc ?_ _ | refine Chg.setCell ?_ (by first | (left; rfl) | (left; assumption) | (right; exact Nat.le_refl _) | (right; simp; done) | (right; simp; omega)) _ | refine Chg.setBlock ?_ (by first | (left; rfl) | (left; assumption) | (right; exact Nat.le_refl _) | (right; simp; done) | (right; simp; omega)) _)) (((W9h.out.set_ 0 _).set_ 1 _).set_ 2 _)⟩))
                    case measure => simp [intOf]; omega
                | true =>
                  rw [hvh] at hwn r1
                  replace hwn := Lib.hid hwn
                  have fin : ∀ W, Chg (fun n => n = w9.heap.size) wr W → Blk W w9.heap.size 67 #[.bool true, .string v.value, .int .u64 ((i : Int) + 2)] → OwnK w1 hb S Fa ((w9.heap.size, Obj.cells #[.bool (wantV (verOf zs chs) a (i + 1)).1.1, .string (wantV (verOf zs chs) a (i + 1)).1.2.1, .int .u64 (wantV (verOf zs chs) a (i + 1)).1.2.2] 67) :: ((ge, oe) :: (gb, ob) :: [(w.heap.size, Obj.cells #[.int .i64 c.cap, .int .i64 c.pins, .int .i64 c.shelves, .int .i64 c.queue, .int .i64 c.watchers, .int .u64 c.seed] 24)])) W := fun W hc hB => by
                    rw [hwn.out]
                    exact o.wrote (by omega) (fun x hx => by
                      simp only [List.mem_cons, List.not_mem_nil, or_false] at hx
                      rcases hx with rfl | rfl | rfl
                      · exact hn3
                      · exact hn5
                      · show w.heap.size ≠ _
                        omega) hc hB
                  replace fin := Lib.hid fin
                  have W9h := Lib.hid W9
                  clear W9
                  replace o := Lib.hid o
                  as_aux_lemma =>
                    go_wp2_with fail
                    go_still_tail 10, (by kernel_rfl)
                    change wpList _ _ _ _ _ wr.drew
                    go_wp2_with fail
                    go_roundw
                    case rel => first | exact ⟨i + 1, by omega, by go_num, by rw [hwn.out]; show _ = Value.int .i64 ((k : Int) - 1 - i); go_num, fin.out _ (by (repeat first | exact Chg.refl _ _ | assumption | refine Chg.drew ?_ | refine Chg.drewN ?_ _ | refine Chg.alloc ?_ _ | refine Chg.setCell ?_ (by first | (left; rfl) | (left; assumption) | (right; exact Nat.le_refl _) | (right; simp; done) | (right; simp; omega)) _ | refine Chg.setBlock ?_ (by first | (left; rfl) | (left; assumption) | (right; exact Nat.le_refl _) | (right; simp; done) | (right; simp; omega)) _)) ((((W9h.out.set_ 0 _).set_ 1 _).set_ 2 _).set_ 1 _)⟩ | ((repeat apply Exists.intro); refine ⟨?rr, ?ff⟩; (case ff => first | exact rfl | (apply act_eq; apply slots_eq; repeat' (first | apply cons_eq | exact rfl | (apply congrArg Value.bool; first | (simp; done) | (simp; omega)) | (simp [*]; done)))); (case rr => exact ⟨i + 1, by omega, by go_num, by rw [hwn.out]; show _ = Value.int .i64 ((k : Int) - 1 - i); go_num, fin.out _ (by (repeat first | exact Chg.refl _ _ | assumption | refine Chg.drew ?_ | refine Chg.drewN ?_ _ | refine Chg.alloc ?_ _ | refine Chg.setCell ?_ (by first | (left; rfl) | (left; assumption) | (right; exact Nat.le_refl _) | (right; simp; done) | (right; simp; omega)) _ | refine Chg.setBlock ?_ (by first | (left; rfl) | (left; assumption) | (right; exact Nat.le_refl _) | (right; simp; done) | (right; simp; omega)) _)) ((((W9h.out.set_ 0 _).set_ 1 _).set_ 2 _).set_ 1 _)⟩))
                    case measure => simp [intOf]; omega
              · have e7 : decide (ei ≤ (a : Int)) = false := by simp; omega
                rw [if_neg hle] at hwn
                replace hwn := Lib.hid hwn
                clear W9
                replace o := Lib.hid o
                as_aux_lemma =>
                  go_wp2_with fail
                  go_roundw
                  case rel => first | exact ⟨i + 1, by omega, by go_num, by rw [hwn.out], by rw [hwn.out]; exact o.out⟩ | ((repeat apply Exists.intro); refine ⟨?rr, ?ff⟩; (case ff => first | exact rfl | (apply act_eq; apply slots_eq; repeat' (first | apply cons_eq | exact rfl | (apply congrArg Value.bool; first | (simp; done) | (simp; omega)) | (simp [*]; done)))); (case rr => exact ⟨i + 1, by omega, by go_num, by rw [hwn.out], by rw [hwn.out]; exact o.out⟩))
                  case measure => simp [intOf]; omega
            · have hik3 : i = k := by omega
              subst hik3
              have e6 : decide ((i : Int) < (i : Int)) = false := by simp
              have hpo := passed_ok (verOf zs chs) a i
              have hrw := read_want (verOf zs chs) a i 0
              have hwl := revV_len (verOf zs chs) i
              obtain ⟨⟨⟨hs, tx, bl⟩, oi⟩, hW⟩ : ∃ W, wantV (verOf zs chs) a i = W := ⟨_, rfl⟩
              rw [hW] at o hpo hrw ⊢
              simp only at o hrw ⊢
              have C := o.blk (List.mem_cons_of_mem _ (List.mem_cons_of_mem _ (List.mem_cons_of_mem _ (List.mem_cons_self ..))))
              have c0 := C.cell 0
              have c1 := C.cell 1
              have c2 := C.cell 2
              have c3 := C.cell 3
              have c4 := C.cell 4
              have c5 := C.cell 5
              clear C
              have ha8 : (0 : Int) ≤ (a : Int) ∧ (a : Int) ≤ 18446744073709551615 := by omega
              have hNa := hNw.out hR (a : Int) ha8 wr
              rw [hhc.out hR] at hNa
              replace hNa := Lib.hid hNa
              replace hrw := Lib.hid hrw
              replace o := Lib.hid o
              go_wp2_with fail
              refine (hNa.out).mono ?_; rintro e w3 ⟨b, rfl, hN3, hbb, hb3⟩
              have k3 := o.out.below hb3
              have hs3 := hb3.size
              have hoF := o.out.own.heap.own
              have hx1 := o.out.lt (List.mem_cons_self ..)
              have hx2 := o.out.lt (List.mem_cons_of_mem _ (List.mem_cons_of_mem _ (List.mem_cons_of_mem _ (List.mem_cons_self ..))))
              have hx3 := o.out.own.below.size
              simp only at hx1 hx2
              have hA := calone k3 hN3 (fun h => by have := hoF b h; omega) (by omega) (fun x hx => by
                simp only [List.mem_cons, List.not_mem_nil, or_false] at hx
                rcases hx with rfl | rfl | rfl | rfl
                · show w9.heap.size ≠ b; omega
                · show ge ≠ b; omega
                · show gb ≠ b; omega
                · show w.heap.size ≠ b; omega) hst.out (by omega) (by rw [hwl]; omega) 200 (by rw [hwl]; omega)
              obtain ⟨⟨rv, rp, rn⟩, hRV⟩ : ∃ R, readV (a : Int) (revV (verOf zs chs) i) 0 = R := ⟨_, rfl⟩
              have hrw3 := hrw.out
              rw [hRV] at hA hrw3
              obtain ⟨hq1, hq2, hq3⟩ := hrw3
              simp only at hq1 hq2 hq3 hA
              subst hq1
              rw [Int.zero_add] at hq2
              clear hb3 c0 c1 c2 c3 c4 c5
              replace hA := Lib.hid hA
              replace hRV := Lib.hid hRV
              replace hN3 := Lib.hid hN3
              replace k3 := Lib.hid k3
              replace hW := Lib.hid hW
              go_wp2_with fail
              refine (hA.out).mono ?_; rintro e w4 ⟨s4, F4, rfl, k4, hI4, hr4, hp4⟩
              have hres := chainResult_any hI4
              rw [hr4] at hres
              simp only at hres
              replace k4 := Lib.hid k4
              replace hres := Lib.hid hres
              replace hI4 := Lib.hid hI4
              go_wp2_with fail
              refine (hres.out).mono ?_; rintro e w5 ⟨rfl, hb5⟩
              have k5 := k4.out.below hb5
              have hI5 := (hI4.out.below hb5).below (Below.more_ (Below.refl _ _) (.cells #[.bool hs, .string tx, .int .u64 bl] 67))
              have hsz5 := k5.lt (List.mem_cons_self ..)
              simp only at hsz5
              have k6 := k5.below (Below.more_ (Below.refl _ _) (.cells #[.bool hs, .string tx, .int .u64 bl] 67))
              have R6 := Blk.new w5 67 #[.bool hs, .string tx, .int .u64 bl]
              have W6 := k6.blk (List.mem_cons_self ..)
              have y0 := R6.cell 0
              have y1 := R6.cell 1
              have y2 := R6.cell 2
              have x0 := W6.cell 0
              have x1 := W6.cell 1
              have x2 := W6.cell 2
              have hpa := passed_any hI5
              rw [hp4, hq2] at hpa
              have hwm := hbw.out _ _ _ _ k6
              generalize passedV i oi = pp at *
              have e8 : decide (2 * pp + 4 < (rn : Int) + 1) = false := by simp; omega
              clear hb5 R6 W6 k5
              replace k6 := Lib.hid k6
              replace hwm := Lib.hid hwm
              replace hI5 := Lib.hid hI5
              replace hpa := Lib.hid hpa
              go_wp2_with fail
              refine (hpa.out).mono ?_; rintro e w7 ⟨rfl, rfl⟩
              go_wp2_with fail
              go_roundw
              case rel => first | exact ⟨a + 1, _, by go_num, by omega, k6.out.less⟩ | ((repeat apply Exists.intro); refine ⟨?rr, ?ff⟩; (case ff => first | exact rfl | (apply act_eq; apply slots_eq; repeat' (first | apply cons_eq | exact rfl | (apply congrArg Value.bool; first | (simp; done) | (simp; omega)) | (simp [*]; done)))); (case rr => exact ⟨a + 1, _, by go_num, by omega, k6.out.less⟩))
              case measure => first | (simp [intOf]; done) | (simp [intOf]; omega)
        · have e5 : decide ((a : Int) ≤ en + 1) = false := by simp; omega
          have hFq := faults_any o.own.heap
          rw [hfau] at hFq
          have hwm := hbw.out _ _ _ _ o
          replace hwm := Lib.hid hwm
          replace o := Lib.hid o
          replace hFq := Lib.hid hFq
          go_wp2_with fail
          refine (hFq.out).mono ?_; rintro e w7 ⟨rfl, rfl⟩
          go_wp2_with fail
          refine (awake24 _).mono ?_; rintro e w7 ⟨rfl, hb7⟩
          go_wp2_with fail
          go_ret
          exact ⟨rfl, Below.next_ hwm.out hb7⟩
end Go.Proofs.Ytpldnbdcpihjcaa
