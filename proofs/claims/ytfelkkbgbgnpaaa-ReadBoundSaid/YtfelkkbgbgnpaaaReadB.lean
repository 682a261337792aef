/-
  The walk over the law of reading's bound (layer 26): the walk. No condition.
-/
import Derived.Test.YtfelkkbgbgnpaaaReadL
namespace Go.Proofs.Ytfelkkbgbgnpaaa
set_option linter.unusedVariables false
open Go.ChangeShapes Go.WideShapes Go.ChangeAt Go.RowKit
open Go.ChangeMaps (setBlock)

set_option maxRecDepth 100000 in
theorem boundSmall (A A1 : Option Addr) (len cap len1 cap1 : Nat) (c : PCfg) (hbad : c.right = false ∨ 30 < len) (w : World) :
    Calls Try.prog 5 #[c.val, .slice A len cap, .slice A1 len1 cap1] w fun e w' => e = .returned (.bool true) ∧ Below w.heap.size w w' := by
  have hCV : c.val = .agg #[.int .i64 c.cap, .int .i64 c.pins, .int .i64 c.shelves, .int .i64 c.queue, .int .i64 c.watchers, .int .u64 c.seed] := rfl
  have hRR := fun W => right_cfg c W
  have hz : Below w.heap.size w (w.alloc (.cells #[.int .i64 c.cap, .int .i64 c.pins, .int .i64 c.shelves, .int .i64 c.queue, .int .i64 c.watchers, .int .u64 c.seed] 24)) := (Below.refl _ _).alloc (Nat.le_refl _) _
  have B0 := Blk.new w 24 #[.int .i64 c.cap, .int .i64 c.pins, .int .i64 c.shelves, .int .i64 c.queue, .int .i64 c.watchers, .int .u64 c.seed]
  have hcs : c.right = false ∨ (c.right = true ∧ 30 < len) := by
    rcases hbad with h | h
    · exact .inl h
    · cases c.right with
      | false => exact .inl rfl
      | true => exact .inr ⟨rfl, h⟩
  rw [hCV] at hRR ⊢
  clear hCV hbad
  generalize c.right = rt at *
  replace hRR := Lib.hid hRR
  replace hz := Lib.hid hz
  replace B0 := Lib.hid B0
  rcases hcs with rfl | ⟨rfl, hl⟩
  · go_enter Try.func5, Try.ntmps5
    go_wp2_with fail
    refine (hRR.out _).mono ?_; rintro e w1 ⟨rfl, hb1⟩
    go_wp2_with fail
    refine (awake26 _).mono ?_; rintro e w7 ⟨rfl, hb7⟩
    go_wp2_with fail
    go_ret
    have h1 := nx hz.out (Nat.le_refl _) hb1
    exact ⟨rfl, h1.trans (hb7.mono h1.size)⟩
  · have d1 : decide ((30 : Int) < (len : Int)) = true := by simp; omega
    go_enter Try.func5, Try.ntmps5
    go_wp2_with fail
    refine (hRR.out _).mono ?_; rintro e w1 ⟨rfl, hb1⟩
    go_wp2_with fail
    refine (awake26 _).mono ?_; rintro e w7 ⟨rfl, hb7⟩
    go_wp2_with fail
    go_ret
    have h1 := nx hz.out (Nat.le_refl _) hb1
    exact ⟨rfl, h1.trans (hb7.mono h1.size)⟩
set_option maxRecDepth 100000 in
set_option maxHeartbeats 4000000 in
theorem boundWalk (A A1 : Option Addr) (len cap len1 cap1 : Nat) (ls : List PChange) (hlen : ls.length = len) (hl30 : len ≤ 30) (zs : List Int) (hlen1 : zs.length = len1) (hzs : ∀ z ∈ zs, 0 ≤ z ∧ z ≤ 255) (hcap1 : len1 ≤ 9223372036854775807) (c : PCfg) (hR : c.Right) (w : World) (hr : Reads w w.heap.size 3 A len (chL ls)) (hr1 : Reads w w.heap.size 1 A1 len1 (zs.map (Value.int .u8))) :
    Calls Try.prog 5 #[c.val, .slice A len cap, .slice A1 len1 cap1] w fun e w' => e = .returned (.bool true) ∧ Below w.heap.size w w' := by
  have hCV : c.val = .agg #[.int .i64 c.cap, .int .i64 c.pins, .int .i64 c.shelves, .int .i64 c.queue, .int .i64 c.watchers, .int .u64 c.seed] := rfl
  have hRR := fun W => right_cfg c W
  rw [(PCfg.right_iff c).2 hR] at hRR
  have hz : Below w.heap.size w (w.alloc (.cells #[.int .i64 c.cap, .int .i64 c.pins, .int .i64 c.shelves, .int .i64 c.queue, .int .i64 c.watchers, .int .u64 c.seed] 24)) := (Below.refl _ _).alloc (Nat.le_refl _) _
  have B0 := Blk.new w 24 #[.int .i64 c.cap, .int .i64 c.pins, .int .i64 c.shelves, .int .i64 c.queue, .int .i64 c.watchers, .int .u64 c.seed]
  have hFd := fun W => field_any c hR W
  have hNw := fun W => readNew_at c 0 (by decide) ⟨#[97]⟩ (by decide) W
  have hMo : ∀ n : Nat, n ≤ 30 → ∀ W, _ := fun n hn W => readMost_any c (n : Int) (by omega) W
  have d1 : decide ((30 : Int) < (len : Int)) = false := by simp; omega
  obtain ⟨p, hp⟩ : ∃ p, plN c ⟨#[97]⟩ 0 = p := ⟨_, rfl⟩
  have hps : (p : Int) < c.shelves := by rw [← hp]; exact (plN_eq hR _ 0).2
  have hLy0 := fun W w0 hb S F K (o : OwnK w0 hb S F K W) (hL : Laid S c (fun _ => none) (fun _ => []) (fun _ => 0) 0) (hl : S.last ≤ 900) => layFree_any (key := ⟨#[97]⟩) (value := ⟨#[48]⟩) (has := true) (ep := 0) hR o hL hl (by decide) (by decide) (by decide) p hps (by rw [fresh_look _ hR]) (by rw [fresh_look _ hR, hp]) rfl
  rw [hCV] at hRR hFd hNw hMo ⊢
  clear hCV
  replace hRR := Lib.hid hRR
  replace hFd := Lib.hid hFd
  replace hNw := Lib.hid hNw
  replace hMo := Lib.hid hMo
  replace hLy0 := Lib.hid hLy0
  replace hr := Lib.hid hr
  replace hr1 := Lib.hid hr1
  replace hz := Lib.hid hz
  replace B0 := Lib.hid B0
  replace hlen := Lib.hid hlen
  replace hlen1 := Lib.hid hlen1
  replace hzs := Lib.hid hzs
  replace hp := Lib.hid hp
  replace hps := Lib.hid hps
  go_enter Try.func5, Try.ntmps5
  go_wp2_with fail
  refine (hRR.out _).mono ?_; rintro e w1 ⟨rfl, hb1⟩
  have C1 := B0.out.below hb1 (by simp)
  have hz1 := nx hz.out (Nat.le_refl _) hb1
  have c0 := C1.cell 0
  have c1 := C1.cell 1
  have c2 := C1.cell 2
  have c3 := C1.cell 3
  have c4 := C1.cell 4
  have c5 := C1.cell 5
  clear hb1
  replace C1 := Lib.hid C1
  replace hz1 := Lib.hid hz1
  go_wp2_with fail
  refine (hFd.out _).mono ?_; rintro e w2 ⟨hb, r, rfl, s2⟩
  obtain ⟨F2, o2⟩ := Own.of_sess s2
  have hF2 := o2.heap.own
  have hcw := C1.out.lt
  have k2 : OwnK w1 hb (fieldS c r) F2 [(w.heap.size, cfgB c)] w2 := ⟨o2, fun x hx => by
    rw [List.mem_singleton.1 hx]
    exact ⟨C1.out.below o2.below hcw, fun h => by have := o2.new _ h; simp only at this; omega⟩⟩
  have hg := o2.below.size
  have C2 : Blk w2 w.heap.size 24 #[.int .i64 c.cap, .int .i64 c.pins, .int .i64 c.shelves, .int .i64 c.queue, .int .i64 c.watchers, .int .u64 c.seed] := (k2.keep _ (List.mem_singleton.2 rfl)).1
  clear s2 o2 c0 c1 c2 c3 c4 c5
  have c0 := C2.cell 0
  have c1 := C2.cell 1
  have c2 := C2.cell 2
  have c3 := C2.cell 3
  have c4 := C2.cell 4
  have c5 := C2.cell 5
  have hLw := hLy0.out _ _ _ _ _ _ k2 (field_laid c hR r) (by show (1 : Int) ≤ 900; decide)
  clear C2
  replace k2 := Lib.hid k2
  replace hLw := Lib.hid hLw
  go_wp2_with fail
  refine (hLw.out).mono ?_; rintro e w3 ⟨S3, F3, bk, rfl, k3, hL3, hl3⟩
  have hO3 : One c ⟨#[97]⟩ p S3 0 (fun _ => 0) := ⟨⟨_, _, hL3, by unfold putT; rw [if_pos rfl], by unfold putS; rw [if_pos rfl]; exact ⟨rfl, rfl⟩⟩, hp.out, Int.le_refl _⟩
  have C3 : Blk w3 w.heap.size 24 #[.int .i64 c.cap, .int .i64 c.pins, .int .i64 c.shelves, .int .i64 c.queue, .int .i64 c.watchers, .int .u64 c.seed] := (k3.keep _ (List.mem_singleton.2 rfl)).1
  clear hLw c0 c1 c2 c3 c4 c5 hL3
  have c0 := C3.cell 0
  have c1 := C3.cell 1
  have c2 := C3.cell 2
  have c3 := C3.cell 3
  have c4 := C3.cell 4
  have c5 := C3.cell 5
  clear C3
  have hF3 := k3.own.heap.own
  have hl3 : S3.last ≤ 3 := Int.le_trans hl3 (by show (1 : Int) + 2 ≤ 3; decide)
  replace k3 := Lib.hid k3
  replace hO3 := Lib.hid hO3
  go_wp2_with fail
  refine (hNw.out _).mono ?_; rintro e w4 ⟨b, rfl, hR4, hb4⟩
  have k4 := k3.out.below hb4
  have D4 : Duo readRout w1 hb S3 F3 [(w.heap.size, cfgB c)] b (newRead c 0 ⟨#[97]⟩) w4 := Duo.start k4 hR4 hF3 (fun x hx => k3.out.lt hx) k3.out.own.below.size
  have N4 : Bnd w w1 c p 0 hb b 0 S3 F3 (newRead c 0 ⟨#[97]⟩) (fun _ => 0) 10 w4 := ⟨D4, hO3.out, stage_new hR rfl, Int.le_refl _, by decide, hl3⟩
  clear hb4 c0 c1 c2 c3 c4 c5 D4 k4 hR4 hO3 k3
  replace N4 := Lib.hid N4
  go_wp2_with fail
  go_loopw [9, 10, 11, 12] (fun sv av ev iv wr => RB1 w w1 len c p hb b sv av ev iv wr) (fun _ _ _ i _ => len + 1 - (intOf i).toNat)
  case atStart => exact ⟨0, 0, S3, F3, _, _, 10, Nat.zero_le _, rfl, rfl, rfl, rfl, N4.out⟩
  case round =>
    clear N4 hl3 hF3
    obtain ⟨k, a, S, F, s, pn, n, hk, rfl, rfl, rfl, rfl, hN⟩ := hrel
    by_cases hlt : k < len
    · have d2 : decide ((k : Int) < (len : Int)) = true := by simpa using hlt
      have i1 : (0 : Int) ≤ (k : Int) := by omega
      have i2 : (k : Int) < (len : Int) := by omega
      have hcs : (k < len1 ∧ ∃ ad z, A1 = some ad ∧ zs[k]? = some z ∧ wr.cell? (ad.add k) = some (.int .u8 z) ∧ ∃ j0 : Nat, z.tmod 5 = j0 ∧ j0 ≤ 4) ∨ ¬ k < len1 := by
        by_cases hk1 : k < len1
        · obtain ⟨ad, u, e1, hadb, hu, hcell⟩ := hr1.out.at_ hk1
          obtain ⟨z, hz9, rfl⟩ : ∃ z, zs[k]? = some z ∧ Value.int .u8 z = u := by simpa using hu
          have hzb := hzs.out z (List.mem_of_getElem? hz9)
          have hbw := hz1.out.trans (hN.duo.own.own.below.mono hz1.out.size)
          refine .inl ⟨hk1, ad, z, e1, hz9, keepc hbw hadb hcell, (z.tmod 5).toNat, ?_, ?_⟩ <;> rw [Int.tmod_eq_emod_of_nonneg hzb.1] <;> omega
        · exact .inr hk1
      replace hN := Lib.hid hN
      rcases hcs with ⟨hk1, ad1, z, rfl, hz9, hcz, j0, hj0, hj4⟩ | hk1
      · have d3 : decide ((k : Int) < (len1 : Int)) = true := by simpa using hk1
        have i3 : (k : Int) < (len1 : Int) := by omega
        have hwj : IntKind.i64.wrap (j0 : Int) = (j0 : Int) := IntWalk.i64_in _ (by omega)
        replace hz9 := Lib.hid hz9
        go_wp2_with fail
        go_loopw [10, 13] (fun av jv wr => RB2 w w1 c p k hb b av jv wr) (fun _ j _ => (intOf j).toNat)
        case atStart => exact ⟨j0, a, S, F, s, pn, n, hj4, rfl, rfl, hN.out⟩
        case round =>
          clear hN
          obtain ⟨j, a, S, F, s, pn, n, hj, rfl, rfl, hN⟩ := hrel
          have ha0 := hN.acts
          have ham := hN.most
          have hn0 := hN.stage.pos
          obtain ⟨D, hRt, -⟩ := hN.duo.rt
          by_cases hj0 : 0 < j
          · have d4 : decide ((0 : Int) < (j : Int)) = true := by simp; omega
            have hAc : Calls Try.prog 14 #[.pointer (some ⟨b, 0, none⟩)] wr _ := readRout.cAct hRt
            have hkd := hN.kind hR
            rcases hra : readRout.act s with ⟨⟨xk, xb, xc, xo, xn, xt⟩, xm⟩
            rw [hra] at hAc hkd
            change Calls Try.prog _ _ _ (fun e w' => e = .returned (.tuple #[.agg #[.int .i64 xk, .int .u64 xb, .int .i64 xc, .int .u64 xo, .int .u64 xn, .string xt], .bool xm]) ∧ _) at hAc
            have d5 : decide (xk = 8) = false := by simpa using hkd
            have d5b : (xk == 8) = false := by simpa using hkd
            have hl63 : a + 1 ≤ 9223372036854775807 := by omega
            clear hra hkd hRt
            replace hAc := Lib.hid hAc
            replace hN := Lib.hid hN
            go_wp2_with fail
            refine (hAc.out).mono ?_; rintro e w5 ⟨rfl, hb5⟩
            have N5 := hN.out.below (hb5.alloc hb5.size (.cells #[.int .i64 xk, .int .u64 xb, .int .i64 xc, .int .u64 xo, .int .u64 xn, .string xt] 31))
            have A5 := Blk.new w5 31 #[.int .i64 xk, .int .u64 xb, .int .i64 xc, .int .u64 xo, .int .u64 xn, .string xt]
            have a0 := A5.cell 0
            have hNx := N5.next hR (by omega)
            clear hb5 A5 hAc
            replace N5 := Lib.hid N5
            replace hNx := Lib.hid hNx
            go_wp2_with fail
            refine (hNx.out).mono ?_; rintro e w6 ⟨⟨yk, yb, yc, yo, yn, yt⟩, ⟨gw, gt⟩, is, S6, F6, s6, pn6, n6, rfl, N6⟩
            rw [show stepV 0 ⟨yk, yb, yc, yo, yn, yt⟩ ⟨gw, gt⟩ = .agg #[.int .i64 0, .int .i64 yk, .int .u64 yb, .int .i64 yc, .int .u64 yo, .int .u64 yn, .string yt, .int .u64 gw, .string gt] from rfl]
            clear hNx a0
            replace N6 := Lib.hid N6
            cases is with
            | true =>
              go_wp2_with fail
              go_roundw
              case rel => exact ⟨j - 1, a + 1, S6, F6, s6, pn6, n6, by omega, by congr 1; omega, by go_num, N6.out.below (Below.more_ (Below.refl _ _) _)⟩
              case measure => simp [intOf]; omega
            | false =>
              go_wp2_with fail
              go_roundw
              case rel => exact ⟨j - 1, a, S6, F6, s6, pn6, n6, by omega, by congr 1; omega, rfl, N6.out.below (Below.more_ (Below.refl _ _) _)⟩
              case measure => simp [intOf]; omega
          · have d4 : decide ((0 : Int) < (j : Int)) = false := by simp; omega
            have hRs := readResult_in hRt.2.2
            by_cases h5 : s.part = 5
            · obtain ⟨rk, rv, rm, hto⟩ := told_five h5 (hN.code h5)
              rw [hto, h5] at hRs
              clear hRt hto
              replace hRs := Lib.hid hRs
              replace hN := Lib.hid hN
              go_wp2_with fail
              refine (hRs.out).mono ?_; rintro e w5 ⟨rfl, hb5⟩
              have hN := hN.out.below (hb5.alloc hb5.size (.cells #[.int .i64 0, .int .i64 0, .int .i64 0, .bool rk, .string rv, .slice none 0 0, .int .i64 0, .slice none 0 0, .int .i64 rm, .int .u64 0] 42))
              clear hb5 hRs
              have hAl := hN.alone hR (by omega)
              replace hAl := Lib.hid hAl
              replace hN := Lib.hid hN
              go_wp2_with fail
              refine (hAl.out).mono ?_; rintro e wA ⟨SA, FA, sA, nA, rfl, DA, hA5, hA0, hAf, hAm⟩
              obtain ⟨D, hRt, -⟩ := DA.rt
              have hRs := readResult_in hRt.2.2
              obtain ⟨rk, rv, rm, hto⟩ := told_five hA5 hA0
              rw [hto, hA5] at hRs
              have hbA : Below w.heap.size w wA := hz1.out.trans (DA.own.own.below.mono hz1.out.size)
              have ha0 := hN.out.acts
              have d7 : decide (a + (nA : Int) ≤ mostP c (k : Int)) = true := by
                have h1 := hR.pins
                have h2 := hR.shelves
                have e : mostP c (k : Int) = c.pins + 2 * c.shelves + 9 + 4 * k := by unfold mostP; rw [if_pos ((PCfg.right_iff c).2 hR)]
                rw [e]
                simp
                omega
              have hl63 : a + (nA : Int) ≤ 9223372036854775807 := by omega
              have hMk := hMo.out k (by omega)
              generalize mostP c (k : Int) = mp at *
              have hFa : ∀ W, Below wA.heap.size wA W → Calls Try.prog 31 #[.pointer (some ⟨hb, 0, none⟩)] W fun e w' => e = .returned (.int .i64 0) ∧ W = w' := fun W hW => by
                have h1 := faults_any (DA.own.below hW).own.heap
                rw [hAf] at h1
                exact h1
              have hCA : ∀ W, Below wA.heap.size wA W → Blk W w.heap.size 24 #[.int .i64 c.cap, .int .i64 c.pins, .int .i64 c.shelves, .int .i64 c.queue, .int .i64 c.watchers, .int .u64 c.seed] := fun W hW => ((DA.own.below hW).keep _ (List.mem_singleton.2 rfl)).1
              clear hRt hto hA5 hA0 hAf hAm DA
              replace hRs := Lib.hid hRs
              replace hFa := Lib.hid hFa
              replace hCA := Lib.hid hCA
              replace hMk := Lib.hid hMk
              replace hbA := Lib.hid hbA
              go_wp2_with fail
              refine (hRs.out).mono ?_; rintro e wR ⟨rfl, hbR⟩
              have hR1 := hbR.alloc hbR.size (.cells #[.int .i64 0, .int .i64 0, .int .i64 0, .bool rk, .string rv, .slice none 0 0, .int .i64 0, .slice none 0 0, .int .i64 rm, .int .u64 0] 42)
              have TB := Blk.new wR 42 #[.int .i64 0, .int .i64 0, .int .i64 0, .bool rk, .string rv, .slice none 0 0, .int .i64 0, .slice none 0 0, .int .i64 rm, .int .u64 0]
              have t0 := TB.cell 0
              have CB := hCA.out _ hR1
              have c0 := CB.cell 0
              have c1 := CB.cell 1
              have c2 := CB.cell 2
              have c3 := CB.cell 3
              have c4 := CB.cell 4
              have c5 := CB.cell 5
              clear hbR TB CB
              replace hR1 := Lib.hid hR1
              go_wp2_with fail
              refine (hMk.out _).mono ?_; rintro e wM ⟨rfl, hbM⟩
              have hM1 := hR1.out.trans (hbM.mono hR1.out.size)
              clear hbM c0 c1 c2 c3 c4 c5 t0
              replace hM1 := Lib.hid hM1
              go_wp2_with fail
              refine (hFa.out _ (by first | exact hM1.out | exact hM1.out.drew | exact below_drewN hM1.out _)).mono ?_; rintro e wF ⟨rfl, rfl⟩
              go_wp2_with fail
              refine (awake26 _).mono ?_; rintro e w7 ⟨rfl, hb7⟩
              go_wp2_with fail
              go_ret
              have hE := hbA.out.trans ((hM1.out.trans (hb7.mono hM1.out.size)).mono hbA.out.size)
              first | exact ⟨rfl, hE⟩ | exact ⟨rfl, hE.drew⟩ | exact ⟨rfl, below_drewN hE _⟩
            · rw [told_not h5, show decide (s.part = 5) = false from by simpa using h5] at hRs
              clear hRt
              obtain ⟨ch, hch⟩ : ∃ ch, ls[k]? = some ch := ⟨_, List.getElem?_eq_getElem (by rw [hlen.out]; exact hlt)⟩
              obtain ⟨ad, rfl, hadb, hcl⟩ := hr.out.2 (show 0 < len by omega)
              obtain ⟨q0, q1, q2⟩ := chL_at ls k ch hch
              obtain ⟨ky, hs, vl⟩ := ch
              simp only at q0 q1 q2
              have hbw : ∀ W S F b s, Duo readRout w1 hb S F [(w.heap.size, cfgB c)] b s W → Below w.heap.size w W := fun W S F b s h => hz1.out.trans (h.own.own.below.mono hz1.out.size)
              have hc3 : ∀ W, Below w.heap.size w W → W.cell? (ad.add (k * 3)) = some (.string ky) ∧ W.cell? ⟨(ad.add (k * 3)).block, (ad.add (k * 3)).off + 1, none⟩ = some (.bool hs) ∧ W.cell? ⟨(ad.add (k * 3)).block, (ad.add (k * 3)).off + 2, none⟩ = some (.string vl) := fun W hW => by
                refine ⟨keepc hW hadb (hcl _ _ q0), ?_, ?_⟩
                · have e : (⟨(ad.add (k * 3)).block, (ad.add (k * 3)).off + 1, none⟩ : Addr) = (ad.add (k * 3)).add 1 := rfl
                  rw [e, add_of_add]
                  exact keepc hW hadb (hcl _ _ q1)
                · have e : (⟨(ad.add (k * 3)).block, (ad.add (k * 3)).off + 2, none⟩ : Addr) = (ad.add (k * 3)).add 2 := rfl
                  rw [e, add_of_add]
                  exact keepc hW hadb (hcl _ _ q2)
              have hl63 : (k : Int) + 1 ≤ 9223372036854775807 := by omega
              have hlu : (k : Int) + 1 ≤ 18446744073709551615 := by omega
              clear q0 q1 q2 hcl
              replace hRs := Lib.hid hRs
              replace hN := Lib.hid hN
              replace hch := Lib.hid hch
              replace hbw := Lib.hid hbw
              go_wp2_with fail
              refine (hRs.out).mono ?_; rintro e w5 ⟨rfl, hb5⟩
              have N5 := hN.out.below (hb5.alloc hb5.size (.cells #[.int .i64 0, .int .i64 0, .int .i64 0, .bool false, .string ⟨#[]⟩, .slice none 0 0, .int .i64 0, .slice none 0 0, .int .i64 0, .int .u64 0] 42))
              obtain ⟨r0, r1, r2⟩ := hc3 _ (hbw.out _ _ _ _ _ N5.duo)
              clear hb5 hRs
              replace hc3 := Lib.hid hc3
              replace N5 := Lib.hid N5
              go_upto_region 27 with fail
              have N7 := N5.out.below (Below.more_ (Below.refl _ _) (.cells #[.string ⟨#[97]⟩, .bool hs, .string vl] 58))
              have B7 := Blk.new (w5.alloc (.cells #[.int .i64 0, .int .i64 0, .int .i64 0, .bool false, .string ⟨#[]⟩, .slice none 0 0, .int .i64 0, .slice none 0 0, .int .i64 0, .int .u64 0] 42)) 58 #[.string ⟨#[97]⟩, .bool hs, .string vl]
              simp only [World.size_alloc] at B7
              have b0 := B7.cell 0
              have b1 := B7.cell 1
              have b2 := B7.cell 2
              have hb7 := hbw.out _ _ _ _ _ N7.duo
              have C7 : Blk _ w.heap.size 24 #[.int .i64 c.cap, .int .i64 c.pins, .int .i64 c.shelves, .int .i64 c.queue, .int .i64 c.watchers, .int .u64 c.seed] := (N7.duo.own.keep _ (List.mem_singleton.2 rfl)).1
              have c0 := C7.cell 0
              have c1 := C7.cell 1
              have c2 := C7.cell 2
              have c3 := C7.cell 3
              have c4 := C7.cell 4
              have c5 := C7.cell 5
              clear B7 C7 r0 r1 r2
              by_cases hvl : 100 < vl.size
              · have d6 : decide ((100 : Int) < (vl.size : Int)) = true := by simp; omega
                replace N7 := Lib.hid N7
                replace hb7 := Lib.hid hb7
                go_wp2_with fail
                refine (awake26 _).mono ?_; rintro e w7 ⟨rfl, hbx⟩
                go_wp2_with fail
                go_ret
                exact ⟨rfl, Below.next_ hb7.out hbx⟩
              · have d6 : decide ((100 : Int) < (vl.size : Int)) = false := by simp; omega
                have hLy := N7.lay hR (by omega) (has := hs) (value := vl) (by omega)
                clear hb7
                replace hLy := Lib.hid hLy
                replace N7 := Lib.hid N7
                go_wp2_with fail
                refine (hLy.out).mono ?_; rintro e w8 ⟨S8, F8, ⟨rfl, hL8, hla8, hold8⟩, D8⟩
                have hDo := N7.out.store hR (by omega) D8 hL8 hla8 hold8
                clear hLy D8 hL8 hla8 hold8 c0 c1 c2 c3 c4 c5 b0 b1 b2
                replace hDo := Lib.hid hDo
                go_wp2_with fail
                refine (hDo.out).mono ?_; rintro e w9 ⟨g9, S9, F9, n9, rfl, N9⟩
                replace N9 := Lib.hid N9
                clear hDo
                go_wp2_with fail
                go_roundw
                case rel => exact ⟨k + 1, a, S9, F9, s, pn, n9, by omega, by go_num, by go_num, by go_num, rfl, N9.out⟩
                case measure => simp [intOf]; omega
      · have d3 : decide ((k : Int) < (len1 : Int)) = false := by simpa using hk1
        go_wp2_with fail
        go_loopw [10, 13] (fun av jv wr => RB2 w w1 c p k hb b av jv wr) (fun _ j _ => (intOf j).toNat)
        case atStart => exact ⟨1, a, S, F, s, pn, n, by omega, rfl, rfl, hN.out⟩
        case round =>
          clear hN
          obtain ⟨j, a, S, F, s, pn, n, hj, rfl, rfl, hN⟩ := hrel
          have ha0 := hN.acts
          have ham := hN.most
          have hn0 := hN.stage.pos
          obtain ⟨D, hRt, -⟩ := hN.duo.rt
          by_cases hj0 : 0 < j
          · have d4 : decide ((0 : Int) < (j : Int)) = true := by simp; omega
            have hAc : Calls Try.prog 14 #[.pointer (some ⟨b, 0, none⟩)] wr _ := readRout.cAct hRt
            have hkd := hN.kind hR
            rcases hra : readRout.act s with ⟨⟨xk, xb, xc, xo, xn, xt⟩, xm⟩
            rw [hra] at hAc hkd
            change Calls Try.prog _ _ _ (fun e w' => e = .returned (.tuple #[.agg #[.int .i64 xk, .int .u64 xb, .int .i64 xc, .int .u64 xo, .int .u64 xn, .string xt], .bool xm]) ∧ _) at hAc
            have d5 : decide (xk = 8) = false := by simpa using hkd
            have d5b : (xk == 8) = false := by simpa using hkd
            have hl63 : a + 1 ≤ 9223372036854775807 := by omega
            clear hra hkd hRt
            replace hAc := Lib.hid hAc
            replace hN := Lib.hid hN
            go_wp2_with fail
            refine (hAc.out).mono ?_; rintro e w5 ⟨rfl, hb5⟩
            have N5 := hN.out.below (hb5.alloc hb5.size (.cells #[.int .i64 xk, .int .u64 xb, .int .i64 xc, .int .u64 xo, .int .u64 xn, .string xt] 31))
            have A5 := Blk.new w5 31 #[.int .i64 xk, .int .u64 xb, .int .i64 xc, .int .u64 xo, .int .u64 xn, .string xt]
            have a0 := A5.cell 0
            have hNx := N5.next hR (by omega)
            clear hb5 A5 hAc
            replace N5 := Lib.hid N5
            replace hNx := Lib.hid hNx
            go_wp2_with fail
            refine (hNx.out).mono ?_; rintro e w6 ⟨⟨yk, yb, yc, yo, yn, yt⟩, ⟨gw, gt⟩, is, S6, F6, s6, pn6, n6, rfl, N6⟩
            rw [show stepV 0 ⟨yk, yb, yc, yo, yn, yt⟩ ⟨gw, gt⟩ = .agg #[.int .i64 0, .int .i64 yk, .int .u64 yb, .int .i64 yc, .int .u64 yo, .int .u64 yn, .string yt, .int .u64 gw, .string gt] from rfl]
            clear hNx a0
            replace N6 := Lib.hid N6
            cases is with
            | true =>
              go_wp2_with fail
              go_roundw
              case rel => exact ⟨j - 1, a + 1, S6, F6, s6, pn6, n6, by omega, by congr 1; omega, by go_num, N6.out.below (Below.more_ (Below.refl _ _) _)⟩
              case measure => simp [intOf]; omega
            | false =>
              go_wp2_with fail
              go_roundw
              case rel => exact ⟨j - 1, a, S6, F6, s6, pn6, n6, by omega, by congr 1; omega, rfl, N6.out.below (Below.more_ (Below.refl _ _) _)⟩
              case measure => simp [intOf]; omega
          · have d4 : decide ((0 : Int) < (j : Int)) = false := by simp; omega
            have hRs := readResult_in hRt.2.2
            by_cases h5 : s.part = 5
            · obtain ⟨rk, rv, rm, hto⟩ := told_five h5 (hN.code h5)
              rw [hto, h5] at hRs
              clear hRt hto
              replace hRs := Lib.hid hRs
              replace hN := Lib.hid hN
              go_wp2_with fail
              refine (hRs.out).mono ?_; rintro e w5 ⟨rfl, hb5⟩
              have hN := hN.out.below (hb5.alloc hb5.size (.cells #[.int .i64 0, .int .i64 0, .int .i64 0, .bool rk, .string rv, .slice none 0 0, .int .i64 0, .slice none 0 0, .int .i64 rm, .int .u64 0] 42))
              clear hb5 hRs
              have hAl := hN.alone hR (by omega)
              replace hAl := Lib.hid hAl
              replace hN := Lib.hid hN
              go_wp2_with fail
              refine (hAl.out).mono ?_; rintro e wA ⟨SA, FA, sA, nA, rfl, DA, hA5, hA0, hAf, hAm⟩
              obtain ⟨D, hRt, -⟩ := DA.rt
              have hRs := readResult_in hRt.2.2
              obtain ⟨rk, rv, rm, hto⟩ := told_five hA5 hA0
              rw [hto, hA5] at hRs
              have hbA : Below w.heap.size w wA := hz1.out.trans (DA.own.own.below.mono hz1.out.size)
              have ha0 := hN.out.acts
              have d7 : decide (a + (nA : Int) ≤ mostP c (k : Int)) = true := by
                have h1 := hR.pins
                have h2 := hR.shelves
                have e : mostP c (k : Int) = c.pins + 2 * c.shelves + 9 + 4 * k := by unfold mostP; rw [if_pos ((PCfg.right_iff c).2 hR)]
                rw [e]
                simp
                omega
              have hl63 : a + (nA : Int) ≤ 9223372036854775807 := by omega
              have hMk := hMo.out k (by omega)
              generalize mostP c (k : Int) = mp at *
              have hFa : ∀ W, Below wA.heap.size wA W → Calls Try.prog 31 #[.pointer (some ⟨hb, 0, none⟩)] W fun e w' => e = .returned (.int .i64 0) ∧ W = w' := fun W hW => by
                have h1 := faults_any (DA.own.below hW).own.heap
                rw [hAf] at h1
                exact h1
              have hCA : ∀ W, Below wA.heap.size wA W → Blk W w.heap.size 24 #[.int .i64 c.cap, .int .i64 c.pins, .int .i64 c.shelves, .int .i64 c.queue, .int .i64 c.watchers, .int .u64 c.seed] := fun W hW => ((DA.own.below hW).keep _ (List.mem_singleton.2 rfl)).1
              clear hRt hto hA5 hA0 hAf hAm DA
              replace hRs := Lib.hid hRs
              replace hFa := Lib.hid hFa
              replace hCA := Lib.hid hCA
              replace hMk := Lib.hid hMk
              replace hbA := Lib.hid hbA
              go_wp2_with fail
              refine (hRs.out).mono ?_; rintro e wR ⟨rfl, hbR⟩
              have hR1 := hbR.alloc hbR.size (.cells #[.int .i64 0, .int .i64 0, .int .i64 0, .bool rk, .string rv, .slice none 0 0, .int .i64 0, .slice none 0 0, .int .i64 rm, .int .u64 0] 42)
              have TB := Blk.new wR 42 #[.int .i64 0, .int .i64 0, .int .i64 0, .bool rk, .string rv, .slice none 0 0, .int .i64 0, .slice none 0 0, .int .i64 rm, .int .u64 0]
              have t0 := TB.cell 0
              have CB := hCA.out _ hR1
              have c0 := CB.cell 0
              have c1 := CB.cell 1
              have c2 := CB.cell 2
              have c3 := CB.cell 3
              have c4 := CB.cell 4
              have c5 := CB.cell 5
              clear hbR TB CB
              replace hR1 := Lib.hid hR1
              go_wp2_with fail
              refine (hMk.out _).mono ?_; rintro e wM ⟨rfl, hbM⟩
              have hM1 := hR1.out.trans (hbM.mono hR1.out.size)
              clear hbM c0 c1 c2 c3 c4 c5 t0
              replace hM1 := Lib.hid hM1
              go_wp2_with fail
              refine (hFa.out _ (by first | exact hM1.out | exact hM1.out.drew | exact below_drewN hM1.out _)).mono ?_; rintro e wF ⟨rfl, rfl⟩
              go_wp2_with fail
              refine (awake26 _).mono ?_; rintro e w7 ⟨rfl, hb7⟩
              go_wp2_with fail
              go_ret
              have hE := hbA.out.trans ((hM1.out.trans (hb7.mono hM1.out.size)).mono hbA.out.size)
              first | exact ⟨rfl, hE⟩ | exact ⟨rfl, hE.drew⟩ | exact ⟨rfl, below_drewN hE _⟩
            · rw [told_not h5, show decide (s.part = 5) = false from by simpa using h5] at hRs
              clear hRt
              obtain ⟨ch, hch⟩ : ∃ ch, ls[k]? = some ch := ⟨_, List.getElem?_eq_getElem (by rw [hlen.out]; exact hlt)⟩
              obtain ⟨ad, rfl, hadb, hcl⟩ := hr.out.2 (show 0 < len by omega)
              obtain ⟨q0, q1, q2⟩ := chL_at ls k ch hch
              obtain ⟨ky, hs, vl⟩ := ch
              simp only at q0 q1 q2
              have hbw : ∀ W S F b s, Duo readRout w1 hb S F [(w.heap.size, cfgB c)] b s W → Below w.heap.size w W := fun W S F b s h => hz1.out.trans (h.own.own.below.mono hz1.out.size)
              have hc3 : ∀ W, Below w.heap.size w W → W.cell? (ad.add (k * 3)) = some (.string ky) ∧ W.cell? ⟨(ad.add (k * 3)).block, (ad.add (k * 3)).off + 1, none⟩ = some (.bool hs) ∧ W.cell? ⟨(ad.add (k * 3)).block, (ad.add (k * 3)).off + 2, none⟩ = some (.string vl) := fun W hW => by
                refine ⟨keepc hW hadb (hcl _ _ q0), ?_, ?_⟩
                · have e : (⟨(ad.add (k * 3)).block, (ad.add (k * 3)).off + 1, none⟩ : Addr) = (ad.add (k * 3)).add 1 := rfl
                  rw [e, add_of_add]
                  exact keepc hW hadb (hcl _ _ q1)
                · have e : (⟨(ad.add (k * 3)).block, (ad.add (k * 3)).off + 2, none⟩ : Addr) = (ad.add (k * 3)).add 2 := rfl
                  rw [e, add_of_add]
                  exact keepc hW hadb (hcl _ _ q2)
              have hl63 : (k : Int) + 1 ≤ 9223372036854775807 := by omega
              have hlu : (k : Int) + 1 ≤ 18446744073709551615 := by omega
              clear q0 q1 q2 hcl
              replace hRs := Lib.hid hRs
              replace hN := Lib.hid hN
              replace hch := Lib.hid hch
              replace hbw := Lib.hid hbw
              go_wp2_with fail
              refine (hRs.out).mono ?_; rintro e w5 ⟨rfl, hb5⟩
              have N5 := hN.out.below (hb5.alloc hb5.size (.cells #[.int .i64 0, .int .i64 0, .int .i64 0, .bool false, .string ⟨#[]⟩, .slice none 0 0, .int .i64 0, .slice none 0 0, .int .i64 0, .int .u64 0] 42))
              obtain ⟨r0, r1, r2⟩ := hc3 _ (hbw.out _ _ _ _ _ N5.duo)
              clear hb5 hRs
              replace hc3 := Lib.hid hc3
              replace N5 := Lib.hid N5
              go_upto_region 27 with fail
              have N7 := N5.out.below (Below.more_ (Below.refl _ _) (.cells #[.string ⟨#[97]⟩, .bool hs, .string vl] 58))
              have B7 := Blk.new (w5.alloc (.cells #[.int .i64 0, .int .i64 0, .int .i64 0, .bool false, .string ⟨#[]⟩, .slice none 0 0, .int .i64 0, .slice none 0 0, .int .i64 0, .int .u64 0] 42)) 58 #[.string ⟨#[97]⟩, .bool hs, .string vl]
              simp only [World.size_alloc] at B7
              have b0 := B7.cell 0
              have b1 := B7.cell 1
              have b2 := B7.cell 2
              have hb7 := hbw.out _ _ _ _ _ N7.duo
              have C7 : Blk _ w.heap.size 24 #[.int .i64 c.cap, .int .i64 c.pins, .int .i64 c.shelves, .int .i64 c.queue, .int .i64 c.watchers, .int .u64 c.seed] := (N7.duo.own.keep _ (List.mem_singleton.2 rfl)).1
              have c0 := C7.cell 0
              have c1 := C7.cell 1
              have c2 := C7.cell 2
              have c3 := C7.cell 3
              have c4 := C7.cell 4
              have c5 := C7.cell 5
              clear B7 C7 r0 r1 r2
              by_cases hvl : 100 < vl.size
              · have d6 : decide ((100 : Int) < (vl.size : Int)) = true := by simp; omega
                replace N7 := Lib.hid N7
                replace hb7 := Lib.hid hb7
                go_wp2_with fail
                refine (awake26 _).mono ?_; rintro e w7 ⟨rfl, hbx⟩
                go_wp2_with fail
                go_ret
                exact ⟨rfl, Below.next_ hb7.out hbx⟩
              · have d6 : decide ((100 : Int) < (vl.size : Int)) = false := by simp; omega
                have hLy := N7.lay hR (by omega) (has := hs) (value := vl) (by omega)
                clear hb7
                replace hLy := Lib.hid hLy
                replace N7 := Lib.hid N7
                go_wp2_with fail
                refine (hLy.out).mono ?_; rintro e w8 ⟨S8, F8, ⟨rfl, hL8, hla8, hold8⟩, D8⟩
                have hDo := N7.out.store hR (by omega) D8 hL8 hla8 hold8
                clear hLy D8 hL8 hla8 hold8 c0 c1 c2 c3 c4 c5 b0 b1 b2
                replace hDo := Lib.hid hDo
                go_wp2_with fail
                refine (hDo.out).mono ?_; rintro e w9 ⟨g9, S9, F9, n9, rfl, N9⟩
                replace N9 := Lib.hid N9
                clear hDo
                go_wp2_with fail
                go_roundw
                case rel => exact ⟨k + 1, a, S9, F9, s, pn, n9, by omega, by go_num, by go_num, by go_num, rfl, N9.out⟩
                case measure => simp [intOf]; omega
    · have d2 : decide ((k : Int) < (len : Int)) = false := by simpa using hlt
      clear hlen1 hzs
      have hAl := hN.alone hR (by omega)
      replace hAl := Lib.hid hAl
      replace hN := Lib.hid hN
      go_wp2_with fail
      refine (hAl.out).mono ?_; rintro e wA ⟨SA, FA, sA, nA, rfl, DA, hA5, hA0, hAf, hAm⟩
      obtain ⟨D, hRt, -⟩ := DA.rt
      have hRs := readResult_in hRt.2.2
      obtain ⟨rk, rv, rm, hto⟩ := told_five hA5 hA0
      rw [hto, hA5] at hRs
      have hbA : Below w.heap.size w wA := hz1.out.trans (DA.own.own.below.mono hz1.out.size)
      have ha0 := hN.out.acts
      have d7 : decide (a + (nA : Int) ≤ mostP c (k : Int)) = true := by
        have h1 := hR.pins
        have h2 := hR.shelves
        have e : mostP c (k : Int) = c.pins + 2 * c.shelves + 9 + 4 * k := by unfold mostP; rw [if_pos ((PCfg.right_iff c).2 hR)]
        rw [e]
        simp
        omega
      have hl63 : a + (nA : Int) ≤ 9223372036854775807 := by omega
      have hMk := hMo.out k (by omega)
      generalize mostP c (k : Int) = mp at *
      have hFa : ∀ W, Below wA.heap.size wA W → Calls Try.prog 31 #[.pointer (some ⟨hb, 0, none⟩)] W fun e w' => e = .returned (.int .i64 0) ∧ W = w' := fun W hW => by
        have h1 := faults_any (DA.own.below hW).own.heap
        rw [hAf] at h1
        exact h1
      have hCA : ∀ W, Below wA.heap.size wA W → Blk W w.heap.size 24 #[.int .i64 c.cap, .int .i64 c.pins, .int .i64 c.shelves, .int .i64 c.queue, .int .i64 c.watchers, .int .u64 c.seed] := fun W hW => ((DA.own.below hW).keep _ (List.mem_singleton.2 rfl)).1
      clear hRt hto hA5 hA0 hAf hAm DA
      replace hRs := Lib.hid hRs
      replace hFa := Lib.hid hFa
      replace hCA := Lib.hid hCA
      replace hMk := Lib.hid hMk
      replace hbA := Lib.hid hbA
      go_wp2_with fail
      refine (hRs.out).mono ?_; rintro e wR ⟨rfl, hbR⟩
      have hR1 := hbR.alloc hbR.size (.cells #[.int .i64 0, .int .i64 0, .int .i64 0, .bool rk, .string rv, .slice none 0 0, .int .i64 0, .slice none 0 0, .int .i64 rm, .int .u64 0] 42)
      have TB := Blk.new wR 42 #[.int .i64 0, .int .i64 0, .int .i64 0, .bool rk, .string rv, .slice none 0 0, .int .i64 0, .slice none 0 0, .int .i64 rm, .int .u64 0]
      have t0 := TB.cell 0
      have CB := hCA.out _ hR1
      have c0 := CB.cell 0
      have c1 := CB.cell 1
      have c2 := CB.cell 2
      have c3 := CB.cell 3
      have c4 := CB.cell 4
      have c5 := CB.cell 5
      clear hbR TB CB
      replace hR1 := Lib.hid hR1
      go_wp2_with fail
      refine (hMk.out _).mono ?_; rintro e wM ⟨rfl, hbM⟩
      have hM1 := hR1.out.trans (hbM.mono hR1.out.size)
      clear hbM c0 c1 c2 c3 c4 c5 t0
      replace hM1 := Lib.hid hM1
      go_wp2_with fail
      refine (hFa.out _ (by first | exact hM1.out | exact hM1.out.drew | exact below_drewN hM1.out _)).mono ?_; rintro e wF ⟨rfl, rfl⟩
      go_wp2_with fail
      refine (awake26 _).mono ?_; rintro e w7 ⟨rfl, hb7⟩
      go_wp2_with fail
      go_ret
      have hE := hbA.out.trans ((hM1.out.trans (hb7.mono hM1.out.size)).mono hbA.out.size)
      first | exact ⟨rfl, hE⟩ | exact ⟨rfl, hE.drew⟩ | exact ⟨rfl, below_drewN hE _⟩
theorem walkBound26 (A A1 : Option Addr) (len cap len1 cap1 : Nat) (ls : List PChange) (hlen : ls.length = len) (zs : List Int) (hlen1 : zs.length = len1) (hzs : ∀ z ∈ zs, 0 ≤ z ∧ z ≤ 255) (hcap1 : len1 ≤ 9223372036854775807) (c : PCfg) (w : World) (hr : Reads w w.heap.size 3 A len (chL ls)) (hr1 : Reads w w.heap.size 1 A1 len1 (zs.map (Value.int .u8))) :
    Calls Try.prog 5 #[c.val, .slice A len cap, .slice A1 len1 cap1] w fun e w' => e = .returned (.bool true) ∧ Below w.heap.size w w' := by
  by_cases hl : 30 < len
  · exact boundSmall A A1 len cap len1 cap1 c (.inr hl) w
  cases hright : c.right with
  | false => exact boundSmall A A1 len cap len1 cap1 c (.inl hright) w
  | true => exact boundWalk A A1 len cap len1 cap1 ls hlen (by omega) zs hlen1 hzs hcap1 c ((PCfg.right_iff c).1 hright) w hr hr1
end Go.Proofs.Ytfelkkbgbgnpaaa
