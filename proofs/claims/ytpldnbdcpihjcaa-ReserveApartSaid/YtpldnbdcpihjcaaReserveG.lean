/-
  The walk over the law of reserving apart (layer 28). No condition.
-/
import Derived.Test.YtpldnbdcpihjcaaReserveE
namespace Go.Proofs.Ytpldnbdcpihjcaa
set_option linter.unusedVariables false
open Go.ChangeShapes Go.WideShapes Go.ChangeAt Go.RowKit
open Go.ChangeMaps (setBlock)

structure Apart1 (w w1 : World) (n : Nat) (c : PCfg) (r hb : Nat) (F : Nat → Prop) (v iv : Value) (wr : World) : Prop where
  ex : ∃ (k : Nat) (bs : List Nat), k ≤ n ∧ iv = .int .i64 k ∧ bs.length = k ∧ Crowd w1 hb (fieldS c r) F bs (fun _ => newRes c) v wr
  b0 : Blk wr w.heap.size 24 #[.int .i64 c.cap, .int .i64 c.pins, .int .i64 c.shelves, .int .i64 c.queue, .int .i64 c.watchers, .int .u64 c.seed]
structure Apart2 (w w1 : World) (len n : Nat) (c : PCfg) (hb : Nat) (bs : List Nat) (v : Value) (gv iv : Value) (wr : World) : Prop where
  ex : ∃ (k g : Nat) (S : PHeap) (F : Nat → Prop) (ss : Nat → PRes), k ≤ len ∧ iv = .int .i64 k ∧ gv = .int .i64 g ∧ (g : Int) ≤ c.cap ∧ Crowd w1 hb S F bs ss v wr ∧ (∀ j, j < n → AInv c (ss j)) ∧ CtlAt S 1 (65537 * (g : Int)) ∧ S.faults = 0 ∧ S.last = 1
  b0 : Blk wr w.heap.size 24 #[.int .i64 c.cap, .int .i64 c.pins, .int .i64 c.shelves, .int .i64 c.queue, .int .i64 c.watchers, .int .u64 c.seed]
theorem newRes_inv (c : PCfg) (h : c.Right) : AInv c (newRes c) := ⟨(PCfg.right_iff c).2 h, rfl, fun _ h => by cases h⟩
theorem reads_ptr (w : World) (t : TypeId) (x : Value) : Reads (w.alloc (.cells #[x] t)) (w.heap.size + 1) 1 (some ⟨w.heap.size, 0, none⟩) 1 [x] := by
  refine ⟨rfl, fun _ => ⟨_, rfl, Nat.lt_succ_self _, fun j u hu => ?_⟩⟩
  cases j with
  | zero => exact ((Blk.new w t #[x]).cell 0).trans hu
  | succ j => simp at hu
theorem slice_of_own {w : World} {base : Nat} {e : TypeId} {size n : Nat} {v : Value} {xs : List Value} (h : w.ownsRow base e size v n xs) : ∃ A c, v = .slice A n c := by
  rcases h.2 with ⟨rfl, rfl⟩ | ⟨g, cap, cur, rfl, _⟩
  · exact ⟨_, _, rfl⟩
  · exact ⟨_, _, rfl⟩
set_option maxRecDepth 100000 in
set_option maxHeartbeats 40000000 in
theorem walkApart (t : Int) (ht : 0 ≤ t ∧ t ≤ 255) (A : Option Addr) (len cap : Nat) (zs : List Int) (hlen : zs.length = len) (hz0 : ∀ z ∈ zs, 0 ≤ z ∧ z ≤ 255) (hmax : len ≤ maxLen) (c : PCfg) (w : World) (hr : Reads w w.heap.size 1 A len (zs.map (Value.int .u8))) :
    Calls Try.prog 11 #[c.val, .int .u8 t, .slice A len cap] w fun e w' => e = .returned (.bool true) ∧ Below w.heap.size w w' := by
  obtain ⟨i0, hi, hz0', hz1', hz2'⟩ : ∃ i, Try.prog.info? 94 = some i ∧ i.zero = some (.pointer none) ∧ i.size = 1 ∧ i.bytes = 8 := ⟨_, rfl, rfl, rfl, rfl⟩
  obtain ⟨m, hm1, hm2⟩ : ∃ m : Nat, t.tmod 8 = (m : Int) ∧ m < 8 := by
    rw [Int.tmod_eq_emod_of_nonneg ht.1]
    exact ⟨(t % 8).toNat, by omega, by omega⟩
  have hm3 : t % 8 = (m : Int) := by rw [← Int.tmod_eq_emod_of_nonneg ht.1]; exact hm1
  have hCV : c.val = .agg #[.int .i64 c.cap, .int .i64 c.pins, .int .i64 c.shelves, .int .i64 c.queue, .int .i64 c.watchers, .int .u64 c.seed] := rfl
  have hNw := fun W => resNew_any c W
  have hRR := fun W => right_cfg c W
  have hFd : c.Right → ∀ W, _ := fun h W => field_any c h W
  have hz : Below w.heap.size w (w.alloc (.cells #[.int .i64 c.cap, .int .i64 c.pins, .int .i64 c.shelves, .int .i64 c.queue, .int .i64 c.watchers, .int .u64 c.seed] 24)) := (Below.refl _ _).alloc (Nat.le_refl _) _
  have B0 := Blk.new w 24 #[.int .i64 c.cap, .int .i64 c.pins, .int .i64 c.shelves, .int .i64 c.queue, .int .i64 c.watchers, .int .u64 c.seed]
  replace hmax : len ≤ 9223372036854775807 := by unfold maxLen at hmax; omega
  rw [hCV] at hNw hRR hFd ⊢
  clear hCV
  replace hNw := Lib.hid hNw
  replace hFd := Lib.hid hFd
  replace hr := Lib.hid hr
  replace hz := Lib.hid hz
  replace B0 := Lib.hid B0
  cases hright : c.right with
  | false =>
    rw [hright] at hRR
    replace hRR := Lib.hid hRR
    go_enter Try.func11, Try.ntmps11
    go_wp2_with fail
    refine (hRR.out _).mono ?_; rintro e w1 ⟨rfl, hb1⟩
    go_wp2_with fail
    refine (awake28 _).mono ?_; rintro e w7 ⟨rfl, hb7⟩
    go_wp2_with fail
    go_ret
    have h1 := nx hz.out (Nat.le_refl _) hb1
    exact ⟨rfl, h1.trans (hb7.mono h1.size)⟩
  | true =>
  rw [hright] at hRR
  have hR := (PCfg.right_iff c).1 hright
  have hcap := hR.cap
  replace hRR := Lib.hid hRR
  by_cases hbig : 200 < len
  · have d1 : decide ((200 : Int) < (len : Int)) = true := by simp; omega
    go_enter Try.func11, Try.ntmps11
    go_wp2_with fail
    refine (hRR.out _).mono ?_; rintro e w1 ⟨rfl, hb1⟩
    go_wp2_with fail
    refine (awake28 _).mono ?_; rintro e w7 ⟨rfl, hb7⟩
    go_wp2_with fail
    go_ret
    have h1 := nx hz.out (Nat.le_refl _) hb1
    exact ⟨rfl, h1.trans (hb7.mono h1.size)⟩
  have d1 : decide ((200 : Int) < (len : Int)) = false := by simp; omega
  go_enter Try.func11, Try.ntmps11
  go_wp2_with fail
  refine (hRR.out _).mono ?_; rintro e w1 ⟨rfl, hb1⟩
  have C1 := B0.out.below hb1 (by simp)
  have hz1 := nx hz.out (Nat.le_refl _) hb1
  have c0 := C1.cell 0
  have c1 := C1.cell 1
  have c2 := C1.cell 2
  have c3 := C1.cell 3
  have c4 := C1.cell 4
  have c5 := C1.cell 5
  clear hb1
  replace C1 := Lib.hid C1
  replace hz1 := Lib.hid hz1
  go_wp2_with fail
  refine (hFd.out hR _).mono ?_; rintro e w2 ⟨hb, r, rfl, s2⟩
  obtain ⟨F2, o2⟩ := Own.of_sess s2
  have hF2 := o2.heap.own
  have C2 := C1.out.below s2.below C1.out.lt
  have hw1 := C1.out.lt
  clear s2 c0 c1 c2 c3 c4 c5
  have c0 := C2.cell 0
  have c1 := C2.cell 1
  have c2 := C2.cell 2
  have c3 := C2.cell 3
  have c4 := C2.cell 4
  have c5 := C2.cell 5
  replace o2 := Lib.hid o2
  replace C2 := Lib.hid C2
  go_wp2_with fail
  have hcsz := (ctlSize_eq hR).2.1
  have hB2 : Below w2.heap.size w2 (w2.alloc (.cells #[] 94)) := (Below.refl _ _).alloc (Nat.le_refl _) _
  have hcr : Crowd w1 hb (fieldS c r) F2 [] (fun _ => newRes c) (.slice (some ⟨w2.heap.size, 0, none⟩) 0 0) (w2.alloc (.cells #[] 94)) := by
    refine ⟨o2.out.keep hB2, fun j b hj => by simp at hj, List.nodup_nil, ⟨rfl, .inr ⟨w2.heap.size, 0, #[], rfl, o2.out.below.size, Blk.new w2 94 #[], Nat.le_refl _, Nat.zero_le _, rfl, rfl⟩⟩, fun g hg => ⟨fun hF => ?_, by simp⟩⟩
    have e : w2.heap.size = g := by simpa [Value.ownBlock] using hg
    have := hF2 g hF
    omega
  have C3 := C2.out.alloc (.cells #[] 94)
  clear c0 c1 c2 c3 c4 c5 hB2
  replace hcr := Lib.hid hcr
  replace C3 := Lib.hid C3
  go_loopw [9, 10] (fun v iv wr => Apart1 w w1 (m + 1) c r hb F2 v iv wr) (fun _ i _ => m + 2 - (intOf i).toNat)
  case atStart => exact ⟨⟨0, [], Nat.zero_le _, rfl, rfl, hcr.out⟩, C3.out⟩
  case round =>
    obtain ⟨⟨k, bs, hk, rfl, hbs, hcw⟩, b0⟩ := hrel
    have hrow0 := hcw.row
    rw [hbs] at hrow0
    obtain ⟨A', cp, rfl⟩ := slice_of_own hrow0
    clear hrow0
    by_cases hkm : k < m + 1
    · have d3 : decide ((k : Int) < (m : Int) + 1) = true := by simp; omega
      have c0 := b0.cell 0
      have c1 := b0.cell 1
      have c2 := b0.cell 2
      have c3 := b0.cell 3
      have c4 := b0.cell 4
      have c5 := b0.cell 5
      replace b0 := Lib.hid b0
      replace hcw := Lib.hid hcw
      go_wp2_with fail
      refine (hNw.out _).mono ?_; rintro e w3 ⟨b, rfl, hN3, hbb2, hb3⟩
      have hb4 : Below wr.heap.size wr (w3.alloc (.cells #[.pointer (some ⟨b, 0, none⟩)] 94)) := hb3.alloc hb3.size _
      have hN4 : ResIn (w3.alloc (.cells #[.pointer (some ⟨b, 0, none⟩)] 94)) b (newRes c) := hN3.below (Below.more_ (Below.refl _ _) _)
      have C4 := b0.out.below hb4 b0.out.lt
      have hrow := (hcw.out.keep hb4).row
      rw [hbs] at hrow
      clear hb3 c0 c1 c2 c3 c4 c5
      replace hb4 := Lib.hid hb4
      replace hN3 := Lib.hid hN3
      replace hN4 := Lib.hid hN4
      replace C4 := Lib.hid C4
      replace hrow := Lib.hid hrow
      go_wp2_with (at_builtin; go_loud (refine wpList_append_any _ rfl _ _ 104 rfl w1.heap.size 94 i0 (.pointer none) 1 8 Try.underlying104 hi hz0' hz1' hz2' rfl (by decide) _ _ _ rfl hrow.out (w3.heap.size + 1) (some ⟨w3.heap.size, 0, none⟩) 1 1 [.pointer (some ⟨b, 0, none⟩)] rfl (reads_ptr w3 94 _) (by simp [Value.oneCell']) (by unfold maxLen; omega) (by omega) (by have := (hcw.out.keep hb4.out).own.below.size; exact this) ?_; intro v' w5 hown5 hgrow hloc; rw [ptrL_snoc] at hown5; have hcw5 := hcw.out.more hb4.out hN4.out hbb2 (by rw [hbs]; exact hown5) hgrow hloc; have C5 := C4.out.grown hgrow (fun e => by have := (World.ownsRow.lt hrow.out _ e.symm).1; omega); replace hown5 := Lib.hid hown5; replace hgrow := Lib.hid hgrow; replace hloc := Lib.hid hloc; replace hcw5 := Lib.hid hcw5; replace C5 := Lib.hid C5))
      go_roundw
      case rel =>
        have e : (fun j => if j = bs.length then newRes c else (fun _ => newRes c) j) = fun _ => newRes c := by funext j; simp
        have h5 := hcw5.out
        rw [e] at h5
        exact ⟨⟨k + 1, bs ++ [b], by omega, by go_num, by simp [hbs], h5⟩, C5.out⟩
      case measure => simp [intOf]; omega
    · have d3 : decide ((k : Int) < (m : Int) + 1) = false := by simp; omega
      obtain rfl : k = m + 1 := by omega
      go_wp2_with fail
      go_loopw [11, 12] (fun gv iv wr => Apart2 w w1 len (m + 1) c hb bs (.slice A' (m + 1) cp) gv iv wr) (fun _ i _ => len + 1 - (intOf i).toNat)
      case atStart => exact ⟨⟨0, 0, _, F2, _, Nat.zero_le _, rfl, rfl, by have := hR.cap; show (0 : Int) ≤ _; omega, hcw, fun j _ => newRes_inv c hR, field_ctl c r 1 (by omega), rfl, rfl⟩, b0⟩
      case round =>
        obtain ⟨⟨k, g, S, F, ss, hk, rfl, rfl, hgc, hcw, hinv, hctl, hft, hlt0⟩, b0⟩ := hrel
        by_cases hlt : k < len
        · have d2 : decide ((k : Int) < (len : Int)) = true := by simp; omega
          obtain ⟨ad, u, rfl, hadb, hu, hcell⟩ := hr.out.at_ hlt
          obtain ⟨z, hz9, rfl⟩ : ∃ z, zs[k]? = some z ∧ Value.int .u8 z = u := by simpa using hu
          have hzb := hz0 z (List.mem_of_getElem? hz9)
          obtain ⟨kk, hkk, hkn⟩ : ∃ kk : Nat, z.tmod ((m : Int) + 1) = (kk : Int) ∧ kk < m + 1 := by
            rw [Int.tmod_eq_emod_of_nonneg hzb.1]
            have g1 := Int.emod_nonneg z (b := (m : Int) + 1) (by omega)
            have g2 := Int.emod_lt_of_pos z (b := (m : Int) + 1) (by omega)
            exact ⟨(z % ((m : Int) + 1)).toNat, by omega, by omega⟩
          have hw1' : Below w.heap.size w wr := hz1.out.trans (hcw.own.below.mono hz1.out.size)
          have hc0 := keepc hw1' hadb hcell
          obtain ⟨b, hbj⟩ : ∃ b, bs[kk]? = some b := ⟨_, List.getElem?_eq_getElem (by omega)⟩
          have hrw := hcw.row
          rw [hbs] at hrw
          obtain ⟨gg, cg, hA, hg1, hg2⟩ := hrw.form (by omega)
          obtain ⟨rfl, rfl⟩ : A' = some ⟨gg, 0, none⟩ ∧ cp = cg := by injection hA with h1 h2 h3; exact ⟨h1, h3⟩
          have cel : ∀ (S : PHeap) (F : Nat → Prop) (ss : Nat → PRes) (W : World), Crowd w1 hb S F bs ss (.slice (some ⟨gg, 0, none⟩) (m + 1) cp) W → W.cell? ⟨gg, kk, none⟩ = some (.pointer (some ⟨b, 0, none⟩)) := by
            intro S F ss W h
            exact Crowd.cell (cap := cp) (by rw [hbs]; exact h) hbj
          have p0 := cel _ _ _ _ hcw
          have hE := hcw.each kk b hbj
          have hRes := resResult_any hE.1
          have hri : ∀ s : PRes, s.result.2 = s.over := fun s => by unfold PRes.result; cases s.over <;> rfl
          have hrv : ∀ s : PRes, s.over = true → s.result.1 = (s.full, s.ticket) := fun s h => by unfold PRes.result; rw [h]; rfl
          rcases hrs : (ss kk).result with ⟨⟨rf, rt⟩, ri⟩
          have hri1 := hri (ss kk)
          rw [hrs] at hRes hri1
          simp only at hri1
          subst hri1
          have hi0 := hinv kk hkn
          have i1 : (0 : Int) ≤ (k : Int) := by omega
          have i2 : (k : Int) < (len : Int) := by omega
          have i3 : (0 : Int) ≤ (kk : Int) := by omega
          have i4 : (kk : Int) < (m : Int) + 1 := by omega
          have hg32 : g ≤ 32 := by have := hR.cap; omega
          clear hu hz9 hA hw1' hrw hrs
          replace hri := Lib.hid hri
          replace hrv := Lib.hid hrv
          replace hcell := Lib.hid hcell
          replace hRes := Lib.hid hRes
          replace hcw := Lib.hid hcw
          replace hE := Lib.hid hE
          replace hctl := Lib.hid hctl
          replace hinv := Lib.hid hinv
          replace b0 := Lib.hid b0
          replace hbj := Lib.hid hbj
          replace cel := Lib.hid cel
          replace hi0 := Lib.hid hi0
          go_wp2_with fail
          refine (hRes.out).mono ?_; rintro e w4 ⟨rfl, hb4⟩
          have hb4' : Below wr.heap.size wr (w4.alloc (.cells #[.bool rf, .int .i64 rt] 97)) := hb4.alloc hb4.size _
          have hcw4 := hcw.out.keep hb4'
          have hc4 := keepc (hz1.out.trans (hcw4.own.below.mono hz1.out.size)) hadb hcell.out
          have p4 := cel.out _ _ _ _ hcw4
          have C4 := b0.out.below hb4' b0.out.lt
          have hE4 := hcw4.each kk b hbj.out
          have hNx := next_own resRout hcw4.own (resR_fresh hE4.1) (fun k h1 h2 => hE4.2.1 (h2 ▸ h1)) (fun k hk => by rw [hk]; exact hE4.2.2) (by rw [hft]; decide) (by rw [hlt0]; decide)
          clear hb4 p0 hc0
          replace hb4' := Lib.hid hb4'
          replace hcw4 := Lib.hid hcw4
          replace C4 := Lib.hid C4
          replace hE4 := Lib.hid hE4
          replace hNx := Lib.hid hNx
          go_wp2_with fail
          refine (hNx.out).mono ?_; rintro e w5 ⟨a, ga, is, rfl, S5, s5, F5, D5, hP⟩
          obtain ⟨ak, ab, ac, ao, an, at_⟩ := a
          obtain ⟨gw, gt⟩ := ga
          rw [show stepV 0 ⟨ak, ab, ac, ao, an, at_⟩ ⟨gw, gt⟩ = .agg #[.int .i64 0, .int .i64 ak, .int .u64 ab, .int .i64 ac, .int .u64 ao, .int .u64 an, .string at_, .int .u64 gw, .string gt] from rfl]
          have hcw5 := hcw4.out.next hbj.out hP
          have hPd := hP.did
          have C5 := C4.out.keep (hP.chg.block w.heap.size C4.out.lt (fun h => by
            rcases h with h | h
            · have := hcw4.out.own.new _ h; omega
            · have := hE4.out.2.2; omega))
          have hc5 := keepc (hz1.out.trans (hcw5.own.below.mono hz1.out.size)) hadb hcell.out
          have p5 := cel.out _ _ _ _ hcw5
          have hE5 := hcw5.each kk b hbj.out
          simp only [if_true] at hE5
          clear hP p4 hc4
          have hRes5 := resResult_any hE5.1
          rcases hrs5 : s5.result with ⟨⟨rf5, rt5⟩, ri5⟩
          have hri5 := hri.out s5
          rw [hrs5] at hRes5 hri5
          simp only at hri5
          subst hri5
          replace hcw5 := Lib.hid hcw5
          replace C5 := Lib.hid C5
          replace hE5 := Lib.hid hE5
          replace hRes5 := Lib.hid hRes5
          replace hPd := Lib.hid hPd
          replace hrs5 := Lib.hid hrs5
          go_wp2_with fail
          refine (hRes5.out).mono ?_; rintro e w6 ⟨rfl, hb6⟩
          have hb6' : Below w5.heap.size w5 (w6.alloc (.cells #[.bool rf5, .int .i64 rt5] 97)) := hb6.alloc hb6.size _
          have hcw6 := hcw5.out.keep hb6'
          have C6 := C5.out.below hb6' C5.out.lt
          have R6 := Blk.new w6 97 #[.bool rf5, .int .i64 rt5]
          have d0 := C6.cell 0
          have r0 := R6.cell 0
          have r1 := R6.cell 1
          have hs6 : w.heap.size < w6.heap.size := by have := C5.out.lt; have := hb6.size; omega
          have hnR : ¬ F5 w6.heap.size := fun h => by have := hcw5.out.own.heap.own _ h; have := hb6.size; omega
          clear hb6 p5 hc5
          replace hb6' := Lib.hid hb6'
          replace hcw6 := Lib.hid hcw6
          replace C6 := Lib.hid C6
          replace R6 := Lib.hid R6
          cases ho0 : (ss kk).over with
          | true =>
            as_aux_lemma =>
              have hst : S5 = S ∧ s5 = ss kk := by
                rcases hPd.out with ⟨_, _, h1, h2⟩ | ⟨_, h1, _⟩
                · exact ⟨h1, h2⟩
                · rw [can_res S _ hi0.out.made, ho0] at h1; cases h1
              obtain ⟨rfl, hs5⟩ := hst
              have ho5 : s5.over = true := by rw [hs5]; exact ho0
              rw [ho5]
              have hi5 : AInv c s5 := by rw [hs5]; exact hi0.out
              have hctX := Lib.hid (hctl.out)
              obtain ⟨blk, q1, q2, q3⟩ := hctX.out
              have hLd := load_hit hcw6.out.own.heap q1 1 q2
              rw [q3] at hLd
              obtain ⟨wn1, wn2⟩ := word_nat (g) (by omega)
              have hCm := fun W => came (65537 * (g : Int)) (by omega) (by omega) W
              have hIn := fun W => inn (65537 * (g : Int)) (by omega) (by omega) W
              rw [wn1] at hCm
              rw [wn2] at hIn
              have dg : decide (c.cap < (g : Int)) = false := by simp; omega
              replace hLd := Lib.hid hLd
              replace hCm := Lib.hid hCm
              replace hIn := Lib.hid hIn
              clear q1 q2 q3 wn1 wn2
              go_wp2_with fail
              refine (hLd.out).mono ?_; rintro e w7 ⟨rfl, t7⟩
              have hcw7 := hcw6.out.turned t7
              have C7 := C6.out.keep (t7.2.block w.heap.size C6.out.lt (fun h => by have := hcw6.out.own.new _ h; omega))
              have R7 := R6.out.keep (t7.2.block _ R6.out.lt hnR)
              clear t7 d0 r0 r1
              replace hcw7 := Lib.hid hcw7
              replace C7 := Lib.hid C7
              replace R7 := Lib.hid R7
              go_wp2_with fail
              refine (hCm.out _).mono ?_; rintro e w8 ⟨rfl, hb8⟩
              have hcw8 := hcw7.out.keep hb8
              have C8 := C7.out.below hb8 C7.out.lt
              have R8 := R7.out.below hb8 R7.out.lt
              clear hb8
              replace hcw8 := Lib.hid hcw8
              replace C8 := Lib.hid C8
              replace R8 := Lib.hid R8
              go_wp2_with fail
              refine (hIn.out _).mono ?_; rintro e w9 ⟨rfl, hb9⟩
              have hcw9 := hcw8.out.keep hb9
              have C9 := C8.out.below hb9 C8.out.lt
              have R9 := R8.out.below hb9 R8.out.lt
              have d0 := C9.cell 0
              have r0 := R9.cell 0
              clear hb9
              replace hcw9 := Lib.hid hcw9
              replace C9 := Lib.hid C9
              replace R9 := Lib.hid R9
              go_wp2_with fail
              go_roundw
              case rel =>
                have hinv' : ∀ j, j < m + 1 → AInv c ((fun j => if j = kk then s5 else ss j) j) := fun j hj => by
                  by_cases hjk : j = kk
                  · simp only [hjk, if_true]; exact hi5
                  · simp only [hjk, if_false]; exact hinv.out j hj
                first | exact ⟨⟨k + 1, g, _, _, _, by omega, by go_num, by go_num, by omega, hcw9.out, hinv', hctX.out, hft, hlt0⟩, C9.out⟩ | ((repeat apply Exists.intro); refine ⟨?rr, ?ff⟩; (case ff => first | exact rfl | (apply act_eq; apply slots_eq; repeat' (first | apply cons_eq | exact rfl | (apply congrArg Value.bool; first | (simp; done) | (simp; omega)) | (simp [*]; done)))); (case rr => exact ⟨⟨k + 1, g, _, _, _, by omega, by go_num, by go_num, by omega, hcw9.out, hinv', hctX.out, hft, hlt0⟩, C9.out⟩))
              case measure => simp [intOf]; omega
          | false =>
            have hst : AStep c g S5 s5 S := by
              rcases hPd.out with ⟨_, h1, _⟩ | ⟨_, _, r', h1, h2⟩
              · rw [can_res S _ hi0.out.made, ho0] at h1; cases h1
              · rw [h1, h2]
                exact apart_step hctl.out hi0.out ho0 (by omega) hgc r'
            have hi5 := hst.inv
            have hft5 : S5.faults = 0 := hst.faults.trans hft
            have hlt5 : S5.last = 1 := hst.last.trans hlt0
            rcases hst.out with ⟨ho5, hct5⟩ | ⟨ho5, hfu5, hgcap, hct5⟩ | ⟨ho5, hfu5, htk5, hg1c, hct5⟩
            · clear hst
              as_aux_lemma =>
                rw [ho5]
                have hctX := Lib.hid (hct5)
                obtain ⟨blk, q1, q2, q3⟩ := hctX.out
                have hLd := load_hit hcw6.out.own.heap q1 1 q2
                rw [q3] at hLd
                obtain ⟨wn1, wn2⟩ := word_nat (g) (by omega)
                have hCm := fun W => came (65537 * (g : Int)) (by omega) (by omega) W
                have hIn := fun W => inn (65537 * (g : Int)) (by omega) (by omega) W
                rw [wn1] at hCm
                rw [wn2] at hIn
                have dg : decide (c.cap < (g : Int)) = false := by simp; omega
                replace hLd := Lib.hid hLd
                replace hCm := Lib.hid hCm
                replace hIn := Lib.hid hIn
                clear q1 q2 q3 wn1 wn2
                go_wp2_with fail
                refine (hLd.out).mono ?_; rintro e w7 ⟨rfl, t7⟩
                have hcw7 := hcw6.out.turned t7
                have C7 := C6.out.keep (t7.2.block w.heap.size C6.out.lt (fun h => by have := hcw6.out.own.new _ h; omega))
                have R7 := R6.out.keep (t7.2.block _ R6.out.lt hnR)
                clear t7 d0 r0 r1
                replace hcw7 := Lib.hid hcw7
                replace C7 := Lib.hid C7
                replace R7 := Lib.hid R7
                go_wp2_with fail
                refine (hCm.out _).mono ?_; rintro e w8 ⟨rfl, hb8⟩
                have hcw8 := hcw7.out.keep hb8
                have C8 := C7.out.below hb8 C7.out.lt
                have R8 := R7.out.below hb8 R7.out.lt
                clear hb8
                replace hcw8 := Lib.hid hcw8
                replace C8 := Lib.hid C8
                replace R8 := Lib.hid R8
                go_wp2_with fail
                refine (hIn.out _).mono ?_; rintro e w9 ⟨rfl, hb9⟩
                have hcw9 := hcw8.out.keep hb9
                have C9 := C8.out.below hb9 C8.out.lt
                have R9 := R8.out.below hb9 R8.out.lt
                have d0 := C9.cell 0
                have r0 := R9.cell 0
                clear hb9
                replace hcw9 := Lib.hid hcw9
                replace C9 := Lib.hid C9
                replace R9 := Lib.hid R9
                go_wp2_with fail
                go_roundw
                case rel =>
                  have hinv' : ∀ j, j < m + 1 → AInv c ((fun j => if j = kk then s5 else ss j) j) := fun j hj => by
                    by_cases hjk : j = kk
                    · simp only [hjk, if_true]; exact hi5
                    · simp only [hjk, if_false]; exact hinv.out j hj
                  first | exact ⟨⟨k + 1, g, _, _, _, by omega, by go_num, by go_num, by omega, hcw9.out, hinv', hctX.out, hft5, hlt5⟩, C9.out⟩ | ((repeat apply Exists.intro); refine ⟨?rr, ?ff⟩; (case ff => first | exact rfl | (apply act_eq; apply slots_eq; repeat' (first | apply cons_eq | exact rfl | (apply congrArg Value.bool; first | (simp; done) | (simp; omega)) | (simp [*]; done)))); (case rr => exact ⟨⟨k + 1, g, _, _, _, by omega, by go_num, by go_num, by omega, hcw9.out, hinv', hctX.out, hft5, hlt5⟩, C9.out⟩))
                case measure => simp [intOf]; omega
            · clear hst
              as_aux_lemma =>
                have hrr := hrv.out s5 ho5
                rw [hrs5.out, hfu5] at hrr
                injection hrr with hrr1 hrr2
                subst hrr1
                clear hrr2
                rw [ho5]
                have hgx : ((g : Int) == c.cap) = true := by simp [hgcap]
                replace hgcap := Lib.hid hgcap
                have hctX := Lib.hid (hct5)
                obtain ⟨blk, q1, q2, q3⟩ := hctX.out
                have hLd := load_hit hcw6.out.own.heap q1 1 q2
                rw [q3] at hLd
                obtain ⟨wn1, wn2⟩ := word_nat (g) (by omega)
                have hCm := fun W => came (65537 * (g : Int)) (by omega) (by omega) W
                have hIn := fun W => inn (65537 * (g : Int)) (by omega) (by omega) W
                rw [wn1] at hCm
                rw [wn2] at hIn
                have dg : decide (c.cap < (g : Int)) = false := by simp; omega
                replace hLd := Lib.hid hLd
                replace hCm := Lib.hid hCm
                replace hIn := Lib.hid hIn
                clear q1 q2 q3 wn1 wn2
                go_wp2_with fail
                refine (hLd.out).mono ?_; rintro e w7 ⟨rfl, t7⟩
                have hcw7 := hcw6.out.turned t7
                have C7 := C6.out.keep (t7.2.block w.heap.size C6.out.lt (fun h => by have := hcw6.out.own.new _ h; omega))
                have R7 := R6.out.keep (t7.2.block _ R6.out.lt hnR)
                clear t7 d0 r0 r1
                replace hcw7 := Lib.hid hcw7
                replace C7 := Lib.hid C7
                replace R7 := Lib.hid R7
                go_wp2_with fail
                refine (hCm.out _).mono ?_; rintro e w8 ⟨rfl, hb8⟩
                have hcw8 := hcw7.out.keep hb8
                have C8 := C7.out.below hb8 C7.out.lt
                have R8 := R7.out.below hb8 R7.out.lt
                clear hb8
                replace hcw8 := Lib.hid hcw8
                replace C8 := Lib.hid C8
                replace R8 := Lib.hid R8
                go_wp2_with fail
                refine (hIn.out _).mono ?_; rintro e w9 ⟨rfl, hb9⟩
                have hcw9 := hcw8.out.keep hb9
                have C9 := C8.out.below hb9 C8.out.lt
                have R9 := R8.out.below hb9 R8.out.lt
                have d0 := C9.cell 0
                have r0 := R9.cell 0
                clear hb9
                replace hcw9 := Lib.hid hcw9
                replace C9 := Lib.hid C9
                replace R9 := Lib.hid R9
                go_wp2_with fail
                go_roundw
                case rel =>
                  have hinv' : ∀ j, j < m + 1 → AInv c ((fun j => if j = kk then s5 else ss j) j) := fun j hj => by
                    by_cases hjk : j = kk
                    · simp only [hjk, if_true]; exact hi5
                    · simp only [hjk, if_false]; exact hinv.out j hj
                  first | exact ⟨⟨k + 1, g, _, _, _, by omega, by go_num, by go_num, by omega, hcw9.out, hinv', hctX.out, hft5, hlt5⟩, C9.out⟩ | ((repeat apply Exists.intro); refine ⟨?rr, ?ff⟩; (case ff => first | exact rfl | (apply act_eq; apply slots_eq; repeat' (first | apply cons_eq | exact rfl | (apply congrArg Value.bool; first | (simp; done) | (simp; omega)) | (simp [*]; done)))); (case rr => exact ⟨⟨k + 1, g, _, _, _, by omega, by go_num, by go_num, by omega, hcw9.out, hinv', hctX.out, hft5, hlt5⟩, C9.out⟩))
                case measure => simp [intOf]; omega
            · clear hst
              as_aux_lemma =>
                have hrr := hrv.out s5 ho5
                rw [hrs5.out, hfu5, htk5] at hrr
                injection hrr with hrr1 hrr2
                subst hrr1 hrr2
                rw [ho5]
                have hctX := Lib.hid (hct5)
                obtain ⟨blk, q1, q2, q3⟩ := hctX.out
                have hLd := load_hit hcw6.out.own.heap q1 1 q2
                rw [q3] at hLd
                obtain ⟨wn1, wn2⟩ := word_nat (g + 1) (by omega)
                have ec : ((g + 1 : Nat) : Int) = (g : Int) + 1 := by omega
                rw [ec] at wn1 wn2
                have hCm := fun W => came (65537 * ((g : Int) + 1)) (by omega) (by omega) W
                have hIn := fun W => inn (65537 * ((g : Int) + 1)) (by omega) (by omega) W
                rw [wn1] at hCm
                rw [wn2] at hIn
                have dg : decide (c.cap < ((g : Int) + 1)) = false := by simp; omega
                replace hLd := Lib.hid hLd
                replace hCm := Lib.hid hCm
                replace hIn := Lib.hid hIn
                clear q1 q2 q3 wn1 wn2
                go_wp2_with fail
                refine (hLd.out).mono ?_; rintro e w7 ⟨rfl, t7⟩
                have hcw7 := hcw6.out.turned t7
                have C7 := C6.out.keep (t7.2.block w.heap.size C6.out.lt (fun h => by have := hcw6.out.own.new _ h; omega))
                have R7 := R6.out.keep (t7.2.block _ R6.out.lt hnR)
                clear t7 d0 r0 r1
                replace hcw7 := Lib.hid hcw7
                replace C7 := Lib.hid C7
                replace R7 := Lib.hid R7
                go_wp2_with fail
                refine (hCm.out _).mono ?_; rintro e w8 ⟨rfl, hb8⟩
                have hcw8 := hcw7.out.keep hb8
                have C8 := C7.out.below hb8 C7.out.lt
                have R8 := R7.out.below hb8 R7.out.lt
                clear hb8
                replace hcw8 := Lib.hid hcw8
                replace C8 := Lib.hid C8
                replace R8 := Lib.hid R8
                go_wp2_with fail
                refine (hIn.out _).mono ?_; rintro e w9 ⟨rfl, hb9⟩
                have hcw9 := hcw8.out.keep hb9
                have C9 := C8.out.below hb9 C8.out.lt
                have R9 := R8.out.below hb9 R8.out.lt
                have d0 := C9.cell 0
                have r0 := R9.cell 0
                clear hb9
                replace hcw9 := Lib.hid hcw9
                replace C9 := Lib.hid C9
                replace R9 := Lib.hid R9
                go_wp2_with fail
                go_roundw
                case rel =>
                  have hinv' : ∀ j, j < m + 1 → AInv c ((fun j => if j = kk then s5 else ss j) j) := fun j hj => by
                    by_cases hjk : j = kk
                    · simp only [hjk, if_true]; exact hi5
                    · simp only [hjk, if_false]; exact hinv.out j hj
                  first | exact ⟨⟨k + 1, g + 1, _, _, _, by omega, by go_num, by go_num, by omega, hcw9.out, hinv', hctX.out, hft5, hlt5⟩, C9.out⟩ | ((repeat apply Exists.intro); refine ⟨?rr, ?ff⟩; (case ff => first | exact rfl | (apply act_eq; apply slots_eq; repeat' (first | apply cons_eq | exact rfl | (apply congrArg Value.bool; first | (simp; done) | (simp; omega)) | (simp [*]; done)))); (case rr => exact ⟨⟨k + 1, g + 1, _, _, _, by omega, by go_num, by go_num, by omega, hcw9.out, hinv', hctX.out, hft5, hlt5⟩, C9.out⟩))
                case measure => simp [intOf]; omega
        · have d2 : decide ((k : Int) < (len : Int)) = false := by simp; omega
          have hFa := faults_any hcw.own.heap
          rw [hft] at hFa
          replace hFa := Lib.hid hFa
          go_wp2_with fail
          refine (hFa.out).mono ?_; rintro e w6 ⟨rfl, rfl⟩
          go_wp2_with fail
          refine (awake28 _).mono ?_; rintro e w7 ⟨rfl, hb7⟩
          go_wp2_with fail
          go_ret
          exact ⟨rfl, Below.next_ (hz1.out.trans (hcw.own.below.mono hz1.out.size)) hb7⟩
end Go.Proofs.Ytpldnbdcpihjcaa
