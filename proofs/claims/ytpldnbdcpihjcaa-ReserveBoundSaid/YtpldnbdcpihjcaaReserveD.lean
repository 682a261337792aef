/-
  The walk over the law of reserving's bound (layer 28). No condition.
-/
import Derived.Test.YtpldnbdcpihjcaaReserveC
import Derived.Test.YtpldnbdcpihjcaaReserveA
import Derived.Test.YtpldnbdcpihjcaaNextO
namespace Go.Proofs.Ytpldnbdcpihjcaa
set_option linter.unusedVariables false
open Go.ChangeShapes Go.WideShapes Go.ChangeAt Go.RowKit
open Go.ChangeMaps (setBlock)

/-- Between two rounds. -/
structure BoundRel (w w1 : World) (len : Nat) (c : PCfg) (hb b : Nat) (av tv iv : Value) (wr : World) : Prop where
  ex : ∃ (k na nt : Nat) (S : PHeap) (s : PRes) (x : Int) (F : Nat → Prop), k ≤ len ∧ iv = .int .i64 k ∧ av = .int .i64 na ∧ tv = .int .i64 nt ∧ na ≤ k ∧ nt ≤ k ∧
    Own w1 hb S F wr ∧ ResIn wr b s ∧ ¬ F b ∧ CtlAt S 1 x ∧ (0 ≤ x ∧ x ≤ 18446744073709551615) ∧ S.faults = 0 ∧ S.last = 1 ∧ s.made = true ∧ s.over = false ∧ 0 ≤ s.tries ∧ na + s.left x ≤ 2 + nt ∧ s.tries + s.late x ≤ nt
  b0 : Blk wr w.heap.size 24 #[.int .i64 c.cap, .int .i64 c.pins, .int .i64 c.shelves, .int .i64 c.queue, .int .i64 c.watchers, .int .u64 c.seed]
theorem lvV_ok (a n : Int) (hn : 0 ≤ n) : 0 ≤ lvV a n ∧ lvV a n ≤ 18446744073709551615 := by
  unfold lvV lvOk
  have := cameOf_le a
  have := inOf_le a
  split
  · rename_i h
    have h := of_decide_eq_true h
    omega
  · omega
theorem do_store {w : World} {hb : Nat} {S : PHeap} {F : Nat → Prop} (h : HeapIn w hb S F) {i : Nat} (hi : i ≤ 1000) {x : Int} (hc : CtlAt S i x) (v : Int) (hv : 0 ≤ v ∧ v ≤ 18446744073709551615) (hf : S.faults = 0) (hla : S.last < 9223372036854775807) :
    Calls Try.prog 38 #[.pointer (some ⟨hb, 0, none⟩), .agg #[.int .i64 2, .int .u64 1, .int .i64 i, .int .u64 0, .int .u64 v, .string ⟨#[]⟩]] w fun e w' => ∃ g, e = .returned g ∧ Turned F hb (S.set 1 i v) w w' := by
  have hok : PAct.Ok ⟨2, 1, i, 0, v, ByteArray.empty⟩ := ⟨by show (-9223372036854775808 : Int) ≤ 2 ∧ (2 : Int) ≤ _; decide, by show (0 : Int) ≤ 1 ∧ (1 : Int) ≤ _; decide, by show (-9223372036854775808 : Int) ≤ i ∧ (i : Int) ≤ _; omega, by show (0 : Int) ≤ 0 ∧ (0 : Int) ≤ _; decide, hv, by show (0 : Nat) ≤ 9223372036854775807; decide⟩
  refine (do_any h ⟨2, 1, i, 0, v, ByteArray.empty⟩ hok (by rw [hf]; decide) hla).mono fun e w' ⟨r, he, ht⟩ => ⟨_, he, ?_⟩
  rw [hc.store v r] at ht
  exact ht
theorem late_le (s : PRes) (x : Int) : s.late x ≤ 1 := by unfold PRes.late; split <;> omega
theorem late_up (s : PRes) (x y : Int) : s.late y ≤ s.late x + 1 := by have := late_le s y; omega
theorem left_up (s : PRes) (x y : Int) : s.left y ≤ s.left x + 1 := by
  unfold PRes.left
  split
  · omega
  · split
    · split <;> split <;> omega
    · omega
set_option maxRecDepth 100000 in
set_option maxHeartbeats 40000000 in
theorem walkBound (A : Option Addr) (len cap : Nat) (zs : List Int) (hlen : zs.length = len) (hz0 : ∀ z ∈ zs, 0 ≤ z ∧ z ≤ 255) (hmax : len ≤ maxLen) (c : PCfg) (w : World) (hr : Reads w w.heap.size 1 A len (zs.map (Value.int .u8))) :
    Calls Try.prog 12 #[c.val, .slice A len cap] w fun e w' => e = .returned (.bool true) ∧ Below w.heap.size w w' := by
  have hCV : c.val = .agg #[.int .i64 c.cap, .int .i64 c.pins, .int .i64 c.shelves, .int .i64 c.queue, .int .i64 c.watchers, .int .u64 c.seed] := rfl
  have hNw := fun W => resNew_any c W
  have hRR := fun W => right_cfg c W
  have hFd : c.Right → ∀ W, _ := fun h W => field_any c h W
  have hz : Below w.heap.size w (w.alloc (.cells #[.int .i64 c.cap, .int .i64 c.pins, .int .i64 c.shelves, .int .i64 c.queue, .int .i64 c.watchers, .int .u64 c.seed] 24)) := (Below.refl _ _).alloc (Nat.le_refl _) _
  have B0 := Blk.new w 24 #[.int .i64 c.cap, .int .i64 c.pins, .int .i64 c.shelves, .int .i64 c.queue, .int .i64 c.watchers, .int .u64 c.seed]
  replace hmax : len ≤ 9223372036854775807 := by unfold maxLen at hmax; omega
  rw [hCV] at hNw hRR hFd ⊢
  clear hCV
  replace hNw := Lib.hid hNw
  replace hFd := Lib.hid hFd
  replace hr := Lib.hid hr
  replace hz := Lib.hid hz
  replace B0 := Lib.hid B0
  cases hright : c.right with
  | false =>
    rw [hright] at hRR
    replace hRR := Lib.hid hRR
    go_enter Try.func12, Try.ntmps12
    go_wp2_with fail
    refine (hRR.out _).mono ?_; rintro e w1 ⟨rfl, hb1⟩
    go_wp2_with fail
    refine (awake28 _).mono ?_; rintro e w7 ⟨rfl, hb7⟩
    go_wp2_with fail
    go_ret
    have h1 := nx hz.out (Nat.le_refl _) hb1
    exact ⟨rfl, h1.trans (hb7.mono h1.size)⟩
  | true =>
  rw [hright] at hRR
  have hR := (PCfg.right_iff c).1 hright
  have hcap := hR.cap
  replace hRR := Lib.hid hRR
  by_cases hbig : 100 < len
  · have d1 : decide ((100 : Int) < (len : Int)) = true := by simp; omega
    go_enter Try.func12, Try.ntmps12
    go_wp2_with fail
    refine (hRR.out _).mono ?_; rintro e w1 ⟨rfl, hb1⟩
    go_wp2_with fail
    refine (awake28 _).mono ?_; rintro e w7 ⟨rfl, hb7⟩
    go_wp2_with fail
    go_ret
    have h1 := nx hz.out (Nat.le_refl _) hb1
    exact ⟨rfl, h1.trans (hb7.mono h1.size)⟩
  have d1 : decide ((100 : Int) < (len : Int)) = false := by simp; omega
  go_enter Try.func12, Try.ntmps12
  go_wp2_with fail
  refine (hRR.out _).mono ?_; rintro e w1 ⟨rfl, hb1⟩
  have C1 := B0.out.below hb1 (by simp)
  have hz1 := nx hz.out (Nat.le_refl _) hb1
  have c0 := C1.cell 0
  have c1 := C1.cell 1
  have c2 := C1.cell 2
  have c3 := C1.cell 3
  have c4 := C1.cell 4
  have c5 := C1.cell 5
  clear hb1
  replace C1 := Lib.hid C1
  replace hz1 := Lib.hid hz1
  go_wp2_with fail
  refine (hFd.out hR _).mono ?_; rintro e w2 ⟨hb, r, rfl, s2⟩
  obtain ⟨F2, o2⟩ := Own.of_sess s2
  have hF2 := o2.heap.own
  have C2 := C1.out.below s2.below C1.out.lt
  have hw1 := C1.out.lt
  clear s2 c0 c1 c2 c3 c4 c5
  have c0 := C2.cell 0
  have c1 := C2.cell 1
  have c2 := C2.cell 2
  have c3 := C2.cell 3
  have c4 := C2.cell 4
  have c5 := C2.cell 5
  replace o2 := Lib.hid o2
  replace C2 := Lib.hid C2
  go_wp2_with fail
  refine (hNw.out _).mono ?_; rintro e w3 ⟨b, rfl, hN3, hbb2, hb3⟩
  have o3 := o2.out.keep hb3
  have C3 := C2.out.below hb3 C2.out.lt
  have hnb : ¬ F2 b := fun h => by have := hF2 b h; omega
  have hbb : w1.heap.size ≤ b := by have := o2.out.below.size; omega
  have hbc : b ≠ w.heap.size := by have := C2.out.lt; omega
  clear hb3 c0 c1 c2 c3 c4 c5
  replace hN3 := Lib.hid hN3
  replace o3 := Lib.hid o3
  replace C3 := Lib.hid C3
  go_wp2_with fail
  go_loopw [7, 8, 9] (fun av tv iv wr => BoundRel w w1 len c hb b av tv iv wr) (fun _ _ i _ => len + 1 - (intOf i).toNat)
  case atStart =>
    refine ⟨⟨0, 0, 0, fieldS c r, newRes c, 0, F2, Nat.zero_le _, rfl, rfl, rfl, Nat.le_refl _, Nat.le_refl _, o3.out, hN3.out, hnb, field_ctl c r 1 (by have := (ctlSize_eq hR).2.1; omega), by decide, rfl, rfl, hright, rfl, by show (0 : Int) ≤ 0; decide, ?_, ?_⟩, C3.out⟩
    · show 0 + (newRes c).left 0 ≤ 2 + 0
      simp [PRes.left, newRes]
    · show (newRes c).tries + ((newRes c).late 0 : Nat) ≤ _
      simp [PRes.late, newRes]
  case round =>
    obtain ⟨⟨k, na, nt, S, s, x, F, hk, rfl, rfl, rfl, hna, hnt, o, hRs, hnF, hctl, hx, hft, hlt0, hmd, hov, htr, hl, hlate⟩, b0⟩ := hrel
    have hs1 := b0.lt
    have hst := res_step hctl hmd hov ⟨htr, by omega⟩
    have hcan : resRout.can S s = true := by rw [can_res S s hmd, hov]; rfl
    have hCwr : ∀ W, Chg (fun k => F k ∨ k = b) wr W → Blk W w.heap.size 24 #[.int .i64 c.cap, .int .i64 c.pins, .int .i64 c.shelves, .int .i64 c.queue, .int .i64 c.watchers, .int .u64 c.seed] := fun W hc => b0.keep (hc.block _ hs1 (fun h => by
      rcases h with h | h
      · have := o.new _ h; omega
      · exact hbc h.symm))
    by_cases hlt : k < len
    · have d2 : decide ((k : Int) < (len : Int)) = true := by simp; omega
      have hNx := next_own resRout o (resR_fresh hRs) (fun k h1 h2 => hnF (h2 ▸ h1)) (fun k hk => by rw [hk]; exact hbb) (by rw [hft]; decide) (by rw [hlt0]; decide)
      replace hNx := Lib.hid hNx
      replace hst := Lib.hid hst
      replace b0 := Lib.hid b0
      replace o := Lib.hid o
      replace hRs := Lib.hid hRs
      replace hctl := Lib.hid hctl
      replace hCwr := Lib.hid hCwr
      go_wp2_with fail
      refine (hNx.out).mono ?_; rintro e w4 ⟨a, g, is, rfl, S4, s4, F4, D4, hP⟩
      obtain ⟨hPo, hPr, hPof, hPs, hPc, hPd⟩ := hP
      rcases hPd with ⟨_, h2, _⟩ | ⟨rfl, _, r, hS, hs⟩
      · rw [hcan] at h2; cases h2
      have hst4 : ∃ x', Step28 S s x S4 s4 x' := by rw [hS, hs]; exact hst.out r
      obtain ⟨x', hk⟩ := hst4
      clear hS hs
      obtain ⟨ak, ab, ac, ao, an, at_⟩ := a
      obtain ⟨gw, gt⟩ := g
      rw [show stepV 0 ⟨ak, ab, ac, ao, an, at_⟩ ⟨gw, gt⟩ = .agg #[.int .i64 0, .int .i64 ak, .int .u64 ab, .int .i64 ac, .int .u64 ao, .int .u64 an, .string at_, .int .u64 gw, .string gt] from rfl]
      have hR4 : ResIn w4 b s4 := hPr.2.2
      have hnF4 : ¬ F4 b := fun h => hPof b h hPr.2.1
      have C4 := hCwr.out w4 hPc
      have hx' : 0 ≤ x' ∧ x' ≤ 18446744073709551615 := by
        rcases hk.word with e | e
        · rw [e]; exact hx
        · rw [e]; exact hRs.out.next
      have hmd4 := hk.made
      have hft4 : S4.faults = 0 := hk.faults.trans hft
      have hlt4 : S4.last = 1 := hk.last.trans hlt0
      have hl4 := hk.left
      have hla4 := hk.late
      have htr4 : 0 ≤ s4.tries := by have := hk.tries; omega
      have hctl4 := hk.ctl
      have hz5 : Below w4.heap.size w4 (w4.alloc (.cells #[.int .i64 0, .int .i64 ak, .int .u64 ab, .int .i64 ac, .int .u64 ao, .int .u64 an, .string at_, .int .u64 gw, .string gt] 87)) := (Below.refl _ _).alloc (Nat.le_refl _) _
      have hRes := resResult_any (hR4.below hz5)
      have hri : s4.result.2 = s4.over := by unfold PRes.result; cases s4.over <;> rfl
      rcases hrs : s4.result with ⟨⟨rf, rt⟩, ri⟩
      rw [hrs] at hRes hri
      simp only at hri
      subst hri
      clear hk hrs hPs hPof hst hcan hNx hCwr
      replace hPo := Lib.hid hPo
      replace hPr := Lib.hid hPr
      replace hPc := Lib.hid hPc
      replace hR4 := Lib.hid hR4
      replace C4 := Lib.hid C4
      replace hz5 := Lib.hid hz5
      replace hRes := Lib.hid hRes
      replace hctl4 := Lib.hid hctl4
      go_wp2_with fail
      refine (hRes.out).mono ?_; rintro e w5 ⟨rfl, hb5⟩
      have hb45 : Below w4.heap.size w4 (w5.alloc (.cells #[.bool rf, .int .i64 rt] 97)) := (nx hz5.out (Nat.le_refl _) hb5).alloc (by have := hb5.size; have := hz5.out.size; omega) _
      clear hb5
      have o5 := hPo.out.keep hb45
      have R5 := hR4.out.below hb45
      have C5 := C4.out.below hb45 C4.out.lt
      replace o5 := Lib.hid o5
      replace R5 := Lib.hid R5
      replace C5 := Lib.hid C5
      replace hb45 := Lib.hid hb45
      by_cases hov4 : s4.over = true
      · rw [hov4]
        as_aux_lemma =>
          have hAl := alone_own resRout o5.out (resR_fresh R5.out) (fun k h1 h2 => hnF4 (h2 ▸ h1)) (fun k hk => by rw [hk]; exact hbb) (by rw [hft4]; decide) (by rw [hlt4]; decide) 1000 (by decide)
          replace hAl := Lib.hid hAl
          skip
          go_wp2_with fail
          refine (hAl.out).mono ?_; rintro e v1 ⟨xs, S9, s9, F9, D9, hRun, hstop, _, rfl, o9, hR9, _, _, _⟩
          obtain ⟨j1, j2, j3⟩ := res_run hctl4.out hmd4 ⟨htr4, by omega⟩ hRun
          have hov9 : s9.over = true := by
            rcases hstop with h | h
            · have : s4.left x' ≤ 2 := by unfold PRes.left; split <;> (try split) <;> (try split) <;> omega
              omega
            · rw [can_res _ _ j1] at h
              simpa using h
          rw [show (!(resRout.act s9).2) = true from by show (!(PRes.act s9).2) = true; rw [over_act s9 hov9]; rfl]
          have hTr := fun W (hb : Below v1.heap.size v1 W) => tries_any (hR9.2.2.below hb)
          have e1 : decide ((((na : Nat) : Int) + 1) + ((xs.length : Nat) : Int) ≤ 2 + ((nt : Nat) : Int)) = true := by simp; omega
          have e2 : decide (s9.tries ≤ ((nt : Nat) : Int)) = true := by simp; omega
          have l1 : xs.length ≤ 2 := by
            have : s4.left x' ≤ 2 := by unfold PRes.left; split <;> (try split) <;> (try split) <;> omega
            omega
          clear hRun hstop j3
          replace hTr := Lib.hid hTr
          replace o9 := Lib.hid o9
          replace hR9 := Lib.hid hR9
          go_wp2_with fail
          refine (hTr.out _ (by first | exact Below.refl _ _ | exact (Below.refl _ _).drew | exact below_drewN (Below.refl _ _) _)).mono ?_; rintro e v2 ⟨rfl, rfl⟩
          go_wp2_with fail
          refine (awake28 _).mono ?_; rintro e v3 ⟨rfl, hb7⟩
          go_wp2_with fail
          go_ret
          exact ⟨rfl, Below.next_ (hz1.out.trans (o9.out.below.mono hz1.out.size)) hb7⟩
      have hov4' : s4.over = false := by simpa using hov4
      rw [hov4']
      obtain ⟨blk, q1, q2, q3⟩ := hctl4.out
      have hLd := load_hit o5.out.heap q1 1 q2
      rw [q3] at hLd
      have k0 := C5.out.cell 0
      clear q1 q2 q3
      replace hLd := Lib.hid hLd
      go_wp2_with fail
      refine (hLd.out).mono ?_; rintro e w6 ⟨rfl, t6⟩
      have o6 := o5.out.turned t6
      have R6 := R5.out.keep (t6.2.block b R5.out.blk.lt hnF4)
      have hnF6 : ¬ nw F4 (w5.alloc (.cells #[.bool rf, .int .i64 rt] 97)) w6 b := fun h => by
        rcases h with h | h
        · exact hnF4 h
        · have := R5.out.blk.lt; omega
      have C6 := C5.out.keep (t6.2.block w.heap.size C5.out.lt (fun h => by have := o5.out.new _ h; omega))
      have hEn := fun W => enter x' c.cap hx'.1 hx'.2 W
      have hLv := fun W => leave x' 1 hx'.1 hx'.2 (by decide) W
      have k1 := C6.cell 0
      clear t6 k0
      replace hnF6 := Lib.hid hnF6
      replace o6 := Lib.hid o6
      replace R6 := Lib.hid R6
      replace C6 := Lib.hid C6
      replace hEn := Lib.hid hEn
      replace hLv := Lib.hid hLv
      go_wp2_with fail
      refine (hEn.out _).mono ?_; rintro e w7 ⟨rfl, hb7⟩
      have o7 := o6.out.keep hb7
      have R7 := R6.out.below hb7
      have C7 := C6.out.below hb7 C6.out.lt
      obtain ⟨ad, u, rfl, hadb, hu, hcell⟩ := hr.out.at_ hlt
      obtain ⟨z, hz9, rfl⟩ : ∃ z, zs[k]? = some z ∧ Value.int .u8 z = u := by simpa using hu
      have hzb := hz0 z (List.mem_of_getElem? hz9)
      have hW7 : Below w.heap.size w w7 := hz1.out.trans (o7.below.mono hz1.out.size)
      have hcell' := keepc hW7 hadb hcell
      have i1 : (0 : Int) ≤ (k : Int) := by omega
      have i2 : (k : Int) < (len : Int) := by omega
      have hcell0 := Lib.hid hcell
      clear hb7 hu hcell hz9 k1 hW7
      replace o7 := Lib.hid o7
      replace R7 := Lib.hid R7
      replace C7 := Lib.hid C7
      rcases (by omega : z % 3 = 0 ∨ z % 3 = 1 ∨ z % 3 = 2) with hz3 | hz3 | hz3
      · as_aux_lemma =>
          go_wp2_with fail
          go_roundw
          case rel => exact ⟨⟨k + 1, na + 1, nt, S4, s4, x', _, by omega, by go_num, by go_num, rfl, by omega, by omega, o7.out, R7.out, hnF6.out, hctl4.out, hx', hft4, hlt4, hmd4, hov4', htr4, by omega, by omega⟩, C7.out⟩
          case measure => simp [intOf]; omega
      · as_aux_lemma =>
          go_wp2_with fail
          refine (hLv.out _).mono ?_; rintro e w8 ⟨rfl, hb8⟩
          have o8 := o7.out.keep hb8
          have R8 := R7.out.below hb8
          have C8 := C7.out.below hb8 C7.out.lt
          have hcell'' := keepc (hz1.out.trans (o8.below.mono hz1.out.size)) hadb hcell0.out
          clear hb8 hcell'
          replace o8 := Lib.hid o8
          replace R8 := Lib.hid R8
          replace C8 := Lib.hid C8
          have hvv := lvV_ok x' 1 (by decide)
          cases hlo : lvOk x' 1 with
          | true =>
            go_wp2_with fail
            refine (do_store o8.out.heap (i := 1) (by decide) hctl4.out (lvV x' 1) hvv hft4 (by rw [hlt4]; decide)).mono ?_; rintro e w9 ⟨g9, rfl, t9⟩
            have o9 := o8.out.turned t9
            have R9 := R8.out.keep (t9.2.block b R8.out.blk.lt hnF6.out)
            have hnF9 := fun h : nw (nw F4 (w5.alloc (.cells #[.bool rf, .int .i64 rt] 97)) w6) w8 w9 b => (by
              rcases h with h | h
              · exact hnF6.out h
              · have := R8.out.blk.lt; omega : False)
            have C9 := C8.out.keep (t9.2.block w.heap.size C8.out.lt (fun h => by have := o8.out.new _ h; omega))
            have u1 := left_up s4 x' (lvV x' 1)
            have u2 := late_up s4 x' (lvV x' 1)
            clear t9
            replace o9 := Lib.hid o9
            replace R9 := Lib.hid R9
            replace C9 := Lib.hid C9
            replace hnF9 := Lib.hid hnF9
            go_wp2_with fail
            go_roundw
            case rel => exact ⟨⟨k + 1, na + 1, nt + 1, _, s4, (lvV x' 1), _, by omega, by go_num, by go_num, by go_num, by omega, by omega, o9.out, R9.out, hnF9.out, hctl4.out.same _, hvv, hft4, hlt4, hmd4, hov4', htr4, by omega, by omega⟩, C9.out⟩
            case measure => simp [intOf]; omega
          | false =>
            go_wp2_with fail
            go_roundw
            case rel => exact ⟨⟨k + 1, na + 1, nt, S4, s4, x', _, by omega, by go_num, by go_num, rfl, by omega, by omega, o8.out, R8.out, hnF6.out, hctl4.out, hx', hft4, hlt4, hmd4, hov4', htr4, by omega, by omega⟩, C8.out⟩
            case measure => simp [intOf]; omega
      · as_aux_lemma =>
          have hvv := entV_ok x' c.cap
          cases hlo : entOk x' c.cap with
          | true =>
            go_wp2_with fail
            refine (do_store o7.out.heap (i := 1) (by decide) hctl4.out (entV x' c.cap) hvv hft4 (by rw [hlt4]; decide)).mono ?_; rintro e w9 ⟨g9, rfl, t9⟩
            have o9 := o7.out.turned t9
            have R9 := R7.out.keep (t9.2.block b R7.out.blk.lt hnF6.out)
            have hnF9 := fun h : nw (nw F4 (w5.alloc (.cells #[.bool rf, .int .i64 rt] 97)) w6) w7 w9 b => (by
              rcases h with h | h
              · exact hnF6.out h
              · have := R7.out.blk.lt; omega : False)
            have C9 := C7.out.keep (t9.2.block w.heap.size C7.out.lt (fun h => by have := o7.out.new _ h; omega))
            have u1 := left_up s4 x' (entV x' c.cap)
            have u2 := late_up s4 x' (entV x' c.cap)
            clear t9
            replace o9 := Lib.hid o9
            replace R9 := Lib.hid R9
            replace C9 := Lib.hid C9
            replace hnF9 := Lib.hid hnF9
            go_wp2_with fail
            go_roundw
            case rel => exact ⟨⟨k + 1, na + 1, nt + 1, _, s4, (entV x' c.cap), _, by omega, by go_num, by go_num, by go_num, by omega, by omega, o9.out, R9.out, hnF9.out, hctl4.out.same _, hvv, hft4, hlt4, hmd4, hov4', htr4, by omega, by omega⟩, C9.out⟩
            case measure => simp [intOf]; omega
          | false =>
            go_wp2_with fail
            go_roundw
            case rel => exact ⟨⟨k + 1, na + 1, nt, S4, s4, x', _, by omega, by go_num, by go_num, rfl, by omega, by omega, o7.out, R7.out, hnF6.out, hctl4.out, hx', hft4, hlt4, hmd4, hov4', htr4, by omega, by omega⟩, C7.out⟩
            case measure => simp [intOf]; omega
    · have d2 : decide ((k : Int) < (len : Int)) = false := by simp; omega
      as_aux_lemma =>
        have hAl := alone_own resRout o (resR_fresh hRs) (fun k h1 h2 => hnF (h2 ▸ h1)) (fun k hk => by rw [hk]; exact hbb) (by rw [hft]; decide) (by rw [hlt0]; decide) 1000 (by decide)
        replace hAl := Lib.hid hAl
        replace hctl := Lib.hid hctl
        replace hst := Lib.hid hst
        replace b0 := Lib.hid b0
        replace o := Lib.hid o
        replace hRs := Lib.hid hRs
        replace hCwr := Lib.hid hCwr
        go_wp2_with fail
        refine (hAl.out).mono ?_; rintro e v1 ⟨xs, S9, s9, F9, D9, hRun, hstop, _, rfl, o9, hR9, _, _, _⟩
        obtain ⟨j1, j2, j3⟩ := res_run hctl.out hmd ⟨htr, by omega⟩ hRun
        have hov9 : s9.over = true := by
          rcases hstop with h | h
          · have : s.left x ≤ 2 := by unfold PRes.left; split <;> (try split) <;> (try split) <;> omega
            omega
          · rw [can_res _ _ j1] at h
            simpa using h
        rw [show (!(resRout.act s9).2) = true from by show (!(PRes.act s9).2) = true; rw [over_act s9 hov9]; rfl]
        have hTr := fun W (hb : Below v1.heap.size v1 W) => tries_any (hR9.2.2.below hb)
        have e1 : decide (((na : Nat) : Int) + ((xs.length : Nat) : Int) ≤ 2 + ((nt : Nat) : Int)) = true := by simp; omega
        have e2 : decide (s9.tries ≤ ((nt : Nat) : Int)) = true := by simp; omega
        have l1 : xs.length ≤ 2 := by
          have : s.left x ≤ 2 := by unfold PRes.left; split <;> (try split) <;> (try split) <;> omega
          omega
        clear hRun hstop j3
        replace hTr := Lib.hid hTr
        replace o9 := Lib.hid o9
        replace hR9 := Lib.hid hR9
        go_wp2_with fail
        refine (hTr.out _ (by first | exact Below.refl _ _ | exact (Below.refl _ _).drew | exact below_drewN (Below.refl _ _) _)).mono ?_; rintro e v2 ⟨rfl, rfl⟩
        go_wp2_with fail
        refine (awake28 _).mono ?_; rintro e v3 ⟨rfl, hb7⟩
        go_wp2_with fail
        go_ret
        exact ⟨rfl, Below.next_ (hz1.out.trans (o9.out.below.mono hz1.out.size)) hb7⟩
end Go.Proofs.Ytpldnbdcpihjcaa
