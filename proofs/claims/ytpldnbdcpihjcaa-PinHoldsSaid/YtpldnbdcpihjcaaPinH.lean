/-
  The walk over the law of several threads that pin (layer 25). No condition.
-/
import Derived.Test.YtpldnbdcpihjcaaPinE
namespace Go.Proofs.Ytpldnbdcpihjcaa
set_option linter.unusedVariables false
open Go.ChangeShapes Go.WideShapes Go.ChangeAt Go.RowKit
open Go.ChangeMaps (setBlock)

theorem reads_ptr1 (w : World) (t : TypeId) (x : Value) : Reads (w.alloc (.cells #[x] t)) (w.heap.size + 1) 1 (some ⟨w.heap.size, 0, none⟩) 1 [x] := by
  refine ⟨rfl, fun _ => ⟨_, rfl, Nat.lt_succ_self _, fun j u hu => ?_⟩⟩
  cases j with
  | zero => exact ((Blk.new w t #[x]).cell 0).trans hu
  | succ j => simp at hu
theorem slice_own {w : World} {base : Nat} {e : TypeId} {size n : Nat} {v : Value} {xs : List Value} (h : w.ownsRow base e size v n xs) : ∃ A c, v = .slice A n c := by
  rcases h.2 with ⟨rfl, rfl⟩ | ⟨g, cap, cur, rfl, _⟩
  · exact ⟨_, _, rfl⟩
  · exact ⟨_, _, rfl⟩
structure Hold1 (w w1 : World) (n : Nat) (c : PCfg) (r hb : Nat) (F : Nat → Prop) (v iv : Value) (wr : World) : Prop where
  ex : ∃ (k : Nat) (bs : List Nat), k ≤ n ∧ iv = .int .i64 k ∧ bs.length = k ∧ Mob (pinLie c) w1 hb (fieldS c r) F bs (fun j => newPin c j) v wr
  b0 : Blk wr w.heap.size 24 #[.int .i64 c.cap, .int .i64 c.pins, .int .i64 c.shelves, .int .i64 c.queue, .int .i64 c.watchers, .int .u64 c.seed]
structure Hold2 (w w1 : World) (len n : Nat) (c : PCfg) (hb : Nat) (bs : List Nat) (v : Value) (iv : Value) (wr : World) : Prop where
  ex : ∃ (k : Nat) (S : PHeap) (F : Nat → Prop) (ss : Nat → PPin) (e : Int), k ≤ len ∧ iv = .int .i64 k ∧ (0 ≤ e ∧ e ≤ k) ∧ Mob (pinLie c) w1 hb S F bs ss v wr ∧ HoldInv c S e n ss ∧ S.faults = 0 ∧ S.last = 1
  b0 : Blk wr w.heap.size 24 #[.int .i64 c.cap, .int .i64 c.pins, .int .i64 c.shelves, .int .i64 c.queue, .int .i64 c.watchers, .int .u64 c.seed]
structure HoldA (w w1 : World) (n : Nat) (c : PCfg) (hb : Nat) (bs : List Nat) (S : PHeap) (ss : Nat → PPin) (v : Value) (av : Value) (wr : World) : Prop where
  ex : ∃ (a : Nat) (F : Nat → Prop), a ≤ n ∧ av = .int .i64 a ∧ Mob (pinLie c) w1 hb S F bs ss v wr
  b0 : Blk wr w.heap.size 24 #[.int .i64 c.cap, .int .i64 c.pins, .int .i64 c.shelves, .int .i64 c.queue, .int .i64 c.watchers, .int .u64 c.seed]
def HoldB (w5 : World) (a : Nat) (bv : Value) (wr : World) : Prop := ∃ b : Nat, b ≤ a ∧ bv = .int .i64 b ∧ Below w5.heap.size w5 wr
theorem pin_res {s : PPin} {p e : Int} {t i : Bool} (h : s.result = ((p, e, t), i)) : (i = true ↔ s.part = 5) ∧ (i = true → s.pin = p ∧ s.epoch = e ∧ s.taken = t) := by
  by_cases hp : s.part = 5
  · rw [PPin.result5 hp] at h
    injection h with h1 h2
    injection h1 with h1 h3
    injection h3 with h3 h4
    subst h1 h2 h3 h4
    exact ⟨by simp [hp], fun _ => ⟨rfl, rfl, rfl⟩⟩
  · rw [PPin.resultN hp] at h
    injection h with h1 h2
    subst h2
    exact ⟨by simp [hp], fun k => by cases k⟩
set_option maxRecDepth 100000 in
set_option maxHeartbeats 80000000 in
theorem walkHolds25 (t : Int) (ht : 0 ≤ t ∧ t ≤ 255) (A : Option Addr) (len cap : Nat) (zs : List Int) (hlen : zs.length = len) (hz0 : ∀ z ∈ zs, 0 ≤ z ∧ z ≤ 255) (hmax : len ≤ maxLen) (c : PCfg) (w : World) (hr : Reads w w.heap.size 1 A len (zs.map (Value.int .u8))) :
    Calls Try.prog 8 #[c.val, .int .u8 t, .slice A len cap] w fun e w' => e = .returned (.bool true) ∧ Below w.heap.size w w' := by
  obtain ⟨i0, hi, hz0', hz1', hz2'⟩ : ∃ i, Try.prog.info? 73 = some i ∧ i.zero = some (.pointer none) ∧ i.size = 1 ∧ i.bytes = 8 := ⟨_, rfl, rfl, rfl, rfl⟩
  obtain ⟨m, hm1, hm2⟩ : ∃ m : Nat, t.tmod 8 = (m : Int) ∧ m < 8 := by
    rw [Int.tmod_eq_emod_of_nonneg ht.1]
    exact ⟨(t % 8).toNat, by omega, by omega⟩
  have hm3 : t % 8 = (m : Int) := by rw [← Int.tmod_eq_emod_of_nonneg ht.1]; exact hm1
  have hCV : c.val = .agg #[.int .i64 c.cap, .int .i64 c.pins, .int .i64 c.shelves, .int .i64 c.queue, .int .i64 c.watchers, .int .u64 c.seed] := rfl
  have hRR := fun W => right_cfg c W
  have hFd : c.Right → ∀ W, _ := fun h W => field_any c h W
  have hNw : ∀ (h : c.Right) (k : Nat) (hk : k ≤ 100), ∀ W, _ := fun h k hk W => pinNew_ok c h (k : Int) ⟨by omega, by omega⟩ W
  have hPp : ∀ (h : c.Right) (k : Nat) (hk : (k : Int) < c.pins), ∀ W, _ := fun h k hk W => planPin_any c h (k : Int) ⟨by omega, hk⟩ W
  have hz : Below w.heap.size w (w.alloc (.cells #[.int .i64 c.cap, .int .i64 c.pins, .int .i64 c.shelves, .int .i64 c.queue, .int .i64 c.watchers, .int .u64 c.seed] 24)) := (Below.refl _ _).alloc (Nat.le_refl _) _
  have B0 := Blk.new w 24 #[.int .i64 c.cap, .int .i64 c.pins, .int .i64 c.shelves, .int .i64 c.queue, .int .i64 c.watchers, .int .u64 c.seed]
  replace hmax : len ≤ 9223372036854775807 := by unfold maxLen at hmax; omega
  rw [hCV] at hNw hRR hFd hPp ⊢
  clear hCV
  replace hNw := Lib.hid hNw
  replace hFd := Lib.hid hFd
  replace hPp := Lib.hid hPp
  replace hr := Lib.hid hr
  replace hz := Lib.hid hz
  replace B0 := Lib.hid B0
  cases hright : c.right with
  | false =>
    rw [hright] at hRR
    replace hRR := Lib.hid hRR
    go_enter Try.func8, Try.ntmps8
    go_wp2_with fail
    refine (hRR.out _).mono ?_; rintro e w1 ⟨rfl, hb1⟩
    go_wp2_with fail
    refine (awake25 _).mono ?_; rintro e w7 ⟨rfl, hb7⟩
    go_wp2_with fail
    go_ret
    have h1 := nx hz.out (Nat.le_refl _) hb1
    exact ⟨rfl, h1.trans (hb7.mono h1.size)⟩
  | true =>
  rw [hright] at hRR
  have hR := (PCfg.right_iff c).1 hright
  have hpn := hR.pins
  replace hRR := Lib.hid hRR
  by_cases hbig : 300 < len
  · have d1 : decide ((300 : Int) < (len : Int)) = true := by simp; omega
    go_enter Try.func8, Try.ntmps8
    go_wp2_with fail
    refine (hRR.out _).mono ?_; rintro e w1 ⟨rfl, hb1⟩
    go_wp2_with fail
    refine (awake25 _).mono ?_; rintro e w7 ⟨rfl, hb7⟩
    go_wp2_with fail
    go_ret
    have h1 := nx hz.out (Nat.le_refl _) hb1
    exact ⟨rfl, h1.trans (hb7.mono h1.size)⟩
  have d1 : decide ((300 : Int) < (len : Int)) = false := by simp; omega
  go_enter Try.func8, Try.ntmps8
  go_wp2_with fail
  refine (hRR.out _).mono ?_; rintro e w1 ⟨rfl, hb1⟩
  have C1 := B0.out.below hb1 (by simp)
  have hz1 := nx hz.out (Nat.le_refl _) hb1
  have c0 := C1.cell 0
  have c1 := C1.cell 1
  have c2 := C1.cell 2
  have c3 := C1.cell 3
  have c4 := C1.cell 4
  have c5 := C1.cell 5
  clear hb1
  replace C1 := Lib.hid C1
  replace hz1 := Lib.hid hz1
  go_wp2_with fail
  refine (hFd.out hR _).mono ?_; rintro e w2 ⟨hb, r, rfl, s2⟩
  obtain ⟨F2, o2⟩ := Own.of_sess s2
  have hF2 := o2.heap.own
  have C2 := C1.out.below s2.below C1.out.lt
  have hw1 := C1.out.lt
  clear s2 c0 c1 c2 c3 c4 c5
  replace o2 := Lib.hid o2
  replace C2 := Lib.hid C2
  go_wp2_with fail
  have hcsz := (ctlSize_eq hR).2.1
  have hB2 : Below w2.heap.size w2 (w2.alloc (.cells #[] 73)) := (Below.refl _ _).alloc (Nat.le_refl _) _
  have hcr : Mob (pinLie c) w1 hb (fieldS c r) F2 [] (fun j => newPin c j) (.slice (some ⟨w2.heap.size, 0, none⟩) 0 0) (w2.alloc (.cells #[] 73)) := by
    refine ⟨o2.out.keep hB2, fun j b hj => by simp at hj, List.nodup_nil, ⟨rfl, .inr ⟨w2.heap.size, 0, #[], rfl, o2.out.below.size, Blk.new w2 73 #[], Nat.le_refl _, Nat.zero_le _, rfl, rfl⟩⟩, fun g hg => ⟨fun hF => ?_, by simp⟩⟩
    have e : w2.heap.size = g := by simpa [Value.ownBlock] using hg
    have := hF2 g hF
    omega
  have C3 := C2.out.alloc (.cells #[] 73)
  clear hB2
  replace hcr := Lib.hid hcr
  replace C3 := Lib.hid C3
  go_loopw [9, 10] (fun v iv wr => Hold1 w w1 (m + 1) c r hb F2 v iv wr) (fun _ i _ => m + 2 - (intOf i).toNat)
  case atStart => exact ⟨⟨0, [], Nat.zero_le _, rfl, rfl, hcr.out⟩, C3.out⟩
  case round =>
    obtain ⟨⟨k, bs, hk, rfl, hbs, hcw⟩, b0⟩ := hrel
    have hrow0 := hcw.row
    rw [hbs] at hrow0
    obtain ⟨A', cp, rfl⟩ := slice_own hrow0
    clear hrow0
    by_cases hkm : k < m + 1
    · have d3 : decide ((k : Int) < (m : Int) + 1) = true := by simp; omega
      have hNk := hNw.out hR k (by omega)
      have c0 := b0.cell 0
      have c1 := b0.cell 1
      have c2 := b0.cell 2
      have c3 := b0.cell 3
      have c4 := b0.cell 4
      have c5 := b0.cell 5
      replace b0 := Lib.hid b0
      replace hcw := Lib.hid hcw
      replace hNk := Lib.hid hNk
      go_wp2_with fail
      refine (hNk.out _).mono ?_; rintro e w3 ⟨b, rfl, hN3, hbb2, hb3⟩
      have hb4 : Below wr.heap.size wr (w3.alloc (.cells #[.pointer (some ⟨b, 0, none⟩)] 73)) := hb3.alloc hb3.size _
      have hN4 : PinOk c (w3.alloc (.cells #[.pointer (some ⟨b, 0, none⟩)] 73)) b (newPin c k) := hN3.below (Below.more_ (Below.refl _ _) _)
      have C4 := b0.out.below hb4 b0.out.lt
      have hrow := (hcw.out.keep hb4).row
      rw [hbs] at hrow
      clear hb3 c0 c1 c2 c3 c4 c5
      replace hb4 := Lib.hid hb4
      replace hN3 := Lib.hid hN3
      replace hN4 := Lib.hid hN4
      replace C4 := Lib.hid C4
      replace hrow := Lib.hid hrow
      go_wp2_with (at_builtin; go_loud (refine wpList_append_any _ rfl _ _ 82 rfl w1.heap.size 73 i0 (.pointer none) 1 8 Try.underlying82 hi hz0' hz1' hz2' rfl (by decide) _ _ _ rfl hrow.out (w3.heap.size + 1) (some ⟨w3.heap.size, 0, none⟩) 1 1 [.pointer (some ⟨b, 0, none⟩)] rfl (reads_ptr1 w3 73 _) (by simp [Value.oneCell']) (by unfold maxLen; omega) (by omega) (by have := (hcw.out.keep hb4.out).own.below.size; exact this) ?_; intro v' w5 hown5 hgrow hloc; rw [ptrsL_snoc] at hown5; have hcw5 := hcw.out.more (Y := pinLie c) hb4.out hN4.out hbb2 (by rw [hbs]; exact hown5) hgrow hloc; have C5 := C4.out.grown hgrow (fun e => by have := (World.ownsRow.lt hrow.out _ e.symm).1; omega); replace hown5 := Lib.hid hown5; replace hgrow := Lib.hid hgrow; replace hloc := Lib.hid hloc; replace hcw5 := Lib.hid hcw5; replace C5 := Lib.hid C5))
      go_roundw
      case rel =>
        have e : (fun j : Nat => if j = bs.length then newPin c (k : Int) else newPin c (j : Int)) = fun j : Nat => newPin c (j : Int) := by
          funext j
          by_cases hj : j = bs.length
          · rw [if_pos hj, hj, hbs]
          · rw [if_neg hj]
        have h5 := hcw5.out
        rw [e] at h5
        exact ⟨⟨k + 1, bs ++ [b], by omega, by go_num, by simp [hbs], h5⟩, C5.out⟩
      case measure => simp [intOf]; omega
    · have d3 : decide ((k : Int) < (m : Int) + 1) = false := by simp; omega
      obtain rfl : k = m + 1 := by omega
      go_wp2_with fail
      go_loopw [11] (fun iv wr => Hold2 w w1 len (m + 1) c hb bs (.slice A' (m + 1) cp) iv wr) (fun i _ => len + 1 - (intOf i).toNat)
      case atStart => exact ⟨⟨0, _, F2, _, 0, Nat.zero_le _, rfl, ⟨Int.le_refl _, Int.le_refl _⟩, hcw, hold_start c hR r (m + 1), rfl, rfl⟩, b0⟩
      case round =>
        clear hcw b0
        obtain ⟨⟨k, S, F, ss, ep, hk, rfl, hep, hcw, hinv, hft, hlt0⟩, b0⟩ := hrel
        by_cases hlt : k < len
        · have d2 : decide ((k : Int) < (len : Int)) = true := by simp; omega
          obtain ⟨ad, u, rfl, hadb, hu, hcell⟩ := hr.out.at_ hlt
          obtain ⟨z, hz9, rfl⟩ : ∃ z, zs[k]? = some z ∧ Value.int .u8 z = u := by simpa using hu
          have hzb := hz0 z (List.mem_of_getElem? hz9)
          obtain ⟨kk, hkk, hkn⟩ : ∃ kk : Nat, z.tmod ((m : Int) + 1 + 1) = (kk : Int) ∧ kk < m + 2 := by
            rw [Int.tmod_eq_emod_of_nonneg hzb.1]
            have g1 := Int.emod_nonneg z (b := (m : Int) + 1 + 1) (by omega)
            have g2 := Int.emod_lt_of_pos z (b := (m : Int) + 1 + 1) (by omega)
            exact ⟨(z % ((m : Int) + 1 + 1)).toNat, by omega, by omega⟩
          have hm0 : ¬ ((m : Int) + 1 + 1 = 0) := by omega
          have hm0' : ¬ ((m : Int) + 1 + 1 = -1) := by omega
          have hmz : ((m : Int) + 1 + 1 == 0) = false := by rw [beq_eq_false_iff_ne]; omega
          have hw1' : Below w.heap.size w wr := hz1.out.trans (hcw.own.below.mono hz1.out.size)
          have hc0 := keepc hw1' hadb hcell
          have i1 : (0 : Int) ≤ (k : Int) := by omega
          have i2 : (k : Int) < (len : Int) := by omega
          clear hu hz9 hw1'
          by_cases hkb : kk = m + 1
          · have d4 : ((kk : Int) == (m : Int) + 1) = true := by simp; omega
            have hdo := do_ctl_bump hcw.own.heap (i := 0) (by decide) hinv.ep 1 (by decide) hft (by rw [hlt0]; decide)
            rw [show ((0 : Nat) : Int) = 0 from rfl, u64_small (by omega)] at hdo
            replace hkb := Lib.hid hkb
            replace hdo := Lib.hid hdo
            replace hcw := Lib.hid hcw
            replace hinv := Lib.hid hinv
            replace b0 := Lib.hid b0
            replace hcell := Lib.hid hcell
            as_aux_lemma =>
              go_wp2_with fail
              refine (hdo.out).mono ?_; rintro e w4 ⟨g4, rfl, t4⟩
              have hcw4 := hcw.out.turned t4
              have C4 := b0.out.keep (t4.2.block w.heap.size b0.out.lt (fun h => by have := hcw.out.own.new _ h; omega))
              have hinv4 := hinv.out.bump
              clear t4
              replace hcw4 := Lib.hid hcw4
              replace C4 := Lib.hid C4
              replace hinv4 := Lib.hid hinv4
              go_wp2_with fail
              go_roundw
              case rel => first | exact ⟨⟨k + 1, _, _, ss, ep + 1, by omega, by go_num, by omega, hcw4.out, hinv4.out, hft, hlt0⟩, C4.out⟩ | ((repeat apply Exists.intro); refine ⟨?rr, ?ff⟩; (case ff => first | exact rfl | (apply act_eq; apply slots_eq; repeat' (first | apply cons_eq | exact rfl | (apply congrArg Value.bool; first | (simp; done) | (simp; omega)) | (simp [*]; done)))); (case rr => exact ⟨⟨k + 1, _, _, ss, ep + 1, by omega, by go_num, by omega, hcw4.out, hinv4.out, hft, hlt0⟩, C4.out⟩))
              case measure => simp [intOf]; omega
          · have d4 : ((kk : Int) == (m : Int) + 1) = false := by rw [beq_eq_false_iff_ne]; omega
            have hkn2 : kk < m + 1 := by omega
            obtain ⟨b, hbj⟩ : ∃ b, bs[kk]? = some b := ⟨_, List.getElem?_eq_getElem (by omega)⟩
            have hrw := hcw.row
            rw [hbs] at hrw
            obtain ⟨gg, cg, hA, hg1, hg2⟩ := hrw.form (by omega)
            obtain ⟨rfl, rfl⟩ : A' = some ⟨gg, 0, none⟩ ∧ cp = cg := by injection hA with h1 h2 h3; exact ⟨h1, h3⟩
            have cel : ∀ (S : PHeap) (F : Nat → Prop) (ss : Nat → PPin) (W : World) (j b : Nat), Mob (pinLie c) w1 hb S F bs ss (.slice (some ⟨gg, 0, none⟩) (m + 1) cp) W → bs[j]? = some b → W.cell? ⟨gg, j, none⟩ = some (.pointer (some ⟨b, 0, none⟩)) := by
              intro S F ss W j b h hj
              exact Mob.cell (cap := cp) (by rw [hbs]; exact h) hj
            have p0 := cel _ _ _ _ _ _ hcw hbj
            have hE := hcw.each kk b hbj
            have hRes := pinResult_any hE.1.lies
            rcases hrs : (ss kk).result with ⟨⟨rp0, re0, rt0⟩, ri0⟩
            rw [hrs] at hRes
            have hst := fun (hc : (pinRout c).can S (ss kk) = true) r => hold_step hinv ⟨hep.1, by omega⟩ hkn2 hc r
            have i3 : (0 : Int) ≤ (kk : Int) := by omega
            have i4 : (kk : Int) < (m : Int) + 1 := by omega
            clear hrw hA
            replace hkb := Lib.hid hkb
            replace hcell := Lib.hid hcell
            replace hRes := Lib.hid hRes
            replace hcw := Lib.hid hcw
            replace hE := Lib.hid hE
            replace hinv := Lib.hid hinv
            replace b0 := Lib.hid b0
            replace hbj := Lib.hid hbj
            replace cel := Lib.hid cel
            replace hst := Lib.hid hst
            replace hrs := Lib.hid hrs
            go_wp2_with fail
            refine (hRes.out).mono ?_; rintro e w4 ⟨rfl, hb4⟩
            have hb4' : Below wr.heap.size wr (w4.alloc (.cells #[.int .i64 rp0, .int .u64 re0, .bool rt0] 76)) := hb4.alloc hb4.size _
            have hcw4 := hcw.out.keep hb4'
            have C4 := b0.out.below hb4' b0.out.lt
            have hld := ctl_load hcw4.own.heap hinv.out.ep
            rw [show ((0 : Nat) : Int) = 0 from rfl] at hld
            clear hb4 p0 hc0
            replace hb4' := Lib.hid hb4'
            replace hcw4 := Lib.hid hcw4
            replace C4 := Lib.hid C4
            replace hld := Lib.hid hld
            go_wp2_with fail
            refine (hld.out).mono ?_; rintro e w5 ⟨rfl, t5⟩
            have hcw5 := hcw4.out.turned t5
            have C5 := C4.out.keep (t5.2.block w.heap.size C4.out.lt (fun h => by have := hcw4.out.own.new _ h; omega))
            have p5 := cel.out _ _ _ _ _ _ hcw5 hbj.out
            have hE5 := hcw5.each kk b hbj.out
            have hNx := next_own (pinRout c) hcw5.own (pinR_fresh hE5.1) (fun k h1 h2 => hE5.2.1 (h2 ▸ h1)) (fun k hk => by rw [hk]; exact hE5.2.2) (by rw [hft]; decide) (by rw [hlt0]; decide)
            clear t5
            replace hcw5 := Lib.hid hcw5
            replace C5 := Lib.hid C5
            replace hE5 := Lib.hid hE5
            replace hNx := Lib.hid hNx
            go_wp2_with fail
            refine (hNx.out).mono ?_; rintro e w6 ⟨aa, ga, is, rfl, S6, s6, F6, D6, hP⟩
            obtain ⟨ak, ab, ac, ao, an, at_⟩ := aa
            obtain ⟨gw, gt⟩ := ga
            rw [show stepV 0 ⟨ak, ab, ac, ao, an, at_⟩ ⟨gw, gt⟩ = .agg #[.int .i64 0, .int .i64 ak, .int .u64 ab, .int .i64 ac, .int .u64 ao, .int .u64 an, .string at_, .int .u64 gw, .string gt] from rfl]
            have hcw6 := hcw5.out.next (pin_RL c) hbj.out hP
            have hPd := hP.did
            have C6 := C5.out.keep (hP.chg.block w.heap.size C5.out.lt (fun h => by
              rcases h with h | h
              · have := hcw5.out.own.new _ h; omega
              · have := hE5.out.2.2; omega))
            have hE6 := hcw6.each kk b hbj.out
            simp only [if_true] at hE6
            have hall : HoldInv c S6 ep (m + 1) (fun j => if j = kk then s6 else ss j) ∧ S6.faults = 0 ∧ S6.last = 1 ∧ (ri0 = false → s6.part = 5 → s6.taken = false → s6.epoch = ep) := by
              have hp5 := pin_res hrs.out
              rcases hPd with ⟨_, _, h1, h2⟩ | ⟨_, h1, r', h2, h3⟩
              · subst h1 h2
                have e : (fun j => if j = kk then ss kk else ss j) = ss := by
                  funext j
                  by_cases hj : j = kk
                  · rw [if_pos hj, hj]
                  · rw [if_neg hj]
                refine ⟨by rw [e]; exact hinv.out, hft, hlt0, fun g1 g2 _ => ?_⟩
                rw [g1] at hp5
                have := hp5.1.2 g2
                cases this
              · have hS := hst.out h1 r'
                rw [show (pinRout c).act (ss kk) = (ss kk).act from rfl] at h2 h3
                rw [show (pinRout c).take (ss kk) = (ss kk).take from rfl] at h3
                rw [← h2, ← h3] at hS
                refine ⟨hS.inv, hS.faults.trans hft, hS.last.trans hlt0, fun g1 g2 g3 => hS.new (fun g4 => ?_) g2 g3⟩
                rw [g1] at hp5
                have := hp5.1.2 g4
                cases this
            obtain ⟨hinv6, hft6, hlt6, hnew6⟩ := hall
            have p6 := cel.out _ _ _ _ _ _ hcw6 hbj.out
            clear hP hPd p5
            have hRes6 := pinResult_any hE6.1.lies
            rcases hrs6 : s6.result with ⟨⟨rp, re, rt⟩, ri⟩
            rw [hrs6] at hRes6
            have hres6 := pin_res hrs6
            have h4 : ri = false ∨ (ri = true ∧ ri0 = true) ∨ (ri = true ∧ ri0 = false ∧ rt = true) ∨ (ri = true ∧ ri0 = false ∧ rt = false ∧ re = ep) := by
              cases ri with
              | false => exact .inl rfl
              | true =>
                cases ri0 with
                | true => exact .inr (.inl ⟨rfl, rfl⟩)
                | false =>
                  cases rt with
                  | true => exact .inr (.inr (.inl ⟨rfl, rfl, rfl⟩))
                  | false =>
                    obtain ⟨g1, g2⟩ := hres6
                    obtain ⟨g3, g4, g5⟩ := g2 rfl
                    exact .inr (.inr (.inr ⟨rfl, rfl, rfl, by rw [← g4]; exact hnew6 rfl (g1.1 rfl) g5⟩))
            clear hres6 hnew6 hrs6 hE6
            generalize (fun j => if j = kk then s6 else ss j) = ss6 at *
            replace hcw6 := Lib.hid hcw6
            replace C6 := Lib.hid C6
            replace hRes6 := Lib.hid hRes6
            replace hinv6 := Lib.hid hinv6
            replace h4 := Lib.hid h4
            clear hinv hst
            go_wp2_with fail
            refine (hRes6.out).mono ?_; rintro e w7 ⟨rfl, hb7⟩
            have hb7' : Below w6.heap.size w6 (w7.alloc (.cells #[.int .i64 rp, .int .u64 re, .bool rt] 76)) := hb7.alloc hb7.size _
            have hcw7 := hcw6.out.keep hb7'
            have C7 := C6.out.below hb7' C6.out.lt
            have R7 := Blk.new w7 76 #[.int .i64 rp, .int .u64 re, .bool rt]
            have r0 := R7.cell 0
            have r1 := R7.cell 1
            have r2 := R7.cell 2
            clear hb7 p6
            replace hb7' := Lib.hid hb7'
            replace hcw7 := Lib.hid hcw7
            replace C7 := Lib.hid C7
            replace R7 := Lib.hid R7
            rcases h4.out with rfl | ⟨rfl, rfl⟩ | ⟨rfl, rfl, rfl⟩ | ⟨rfl, rfl, rfl, rfl⟩
            all_goals
              clear h4
              as_aux_lemma =>
                go_wp2_with fail
                go_loopw [19] (fun av wr => HoldA w w1 (m + 1) c hb bs S6 ss6 (.slice (some ⟨gg, 0, none⟩) (m + 1) cp) av wr) (fun a _ => m + 2 - (intOf a).toNat)
                case atStart => exact ⟨⟨0, _, Nat.zero_le _, rfl, hcw7.out⟩, C7.out⟩
                case round =>
                  clear hcw7 C7 R7 r0 r1 r2
                  obtain ⟨⟨a, Fa, ha, rfl, hcwa⟩, ba0⟩ := hrel
                  by_cases hal : a < m + 1
                  · have d5 : decide ((a : Int) < (m : Int) + 1) = true := by simp; omega
                    obtain ⟨ba, hba⟩ : ∃ ba, bs[a]? = some ba := ⟨_, List.getElem?_eq_getElem (by omega)⟩
                    have pa := cel.out _ _ _ _ _ _ hcwa hba
                    have hEa := hcwa.each a ba hba
                    have hRa := pinResult_any hEa.1.lies
                    rcases hra : (ss6 a).result with ⟨⟨qp, qe, qt⟩, qi⟩
                    rw [hra] at hRa
                    have hra' := pin_res hra
                    have i5 : (0 : Int) ≤ (a : Int) := by omega
                    have i6 : (a : Int) < (m : Int) + 1 := by omega
                    replace hRa := Lib.hid hRa
                    replace hEa := Lib.hid hEa
                    replace hcwa := Lib.hid hcwa
                    replace ba0 := Lib.hid ba0
                    replace hra := Lib.hid hra
                    replace hra' := Lib.hid hra'
                    replace hba := Lib.hid hba
                    go_wp2_with fail
                    refine (hRa.out).mono ?_; rintro e w8 ⟨rfl, hb8⟩
                    have hb8' : Below wr.heap.size wr (w8.alloc (.cells #[.int .i64 qp, .int .u64 qe, .bool qt] 76)) := hb8.alloc hb8.size _
                    have hcw8 := hcwa.out.keep hb8'
                    have C8 := ba0.out.below hb8' ba0.out.lt
                    have R8 := Blk.new w8 76 #[.int .i64 qp, .int .u64 qe, .bool qt]
                    have hs8 := hb8.size
                    have c0 := C8.cell 0
                    have c1 := C8.cell 1
                    have c2 := C8.cell 2
                    have c3 := C8.cell 3
                    have c4 := C8.cell 4
                    have c5 := C8.cell 5
                    have q0 := R8.cell 0
                    have q1 := R8.cell 1
                    have q2 := R8.cell 2
                    clear hb8 pa
                    replace hb8' := Lib.hid hb8'
                    replace hcw8 := Lib.hid hcw8
                    replace C8 := Lib.hid C8
                    replace R8 := Lib.hid R8
                    cases qi with
                    | false =>
                      go_wp2_with fail
                      go_roundw
                      case rel => exact ⟨⟨a + 1, _, by omega, by go_num, hcw8.out⟩, C8.out⟩
                      case measure => simp [intOf]; omega
                    | true =>
                      cases qt with
                      | true =>
                        go_wp2_with fail
                        go_roundw
                        case rel => exact ⟨⟨a + 1, _, by omega, by go_num, hcw8.out⟩, C8.out⟩
                        case measure => simp [intOf]; omega
                      | false =>
                        have hra5 := hra'.out.1.1 rfl
                        obtain ⟨hqp, hqe, hqt⟩ := hra'.out.2 rfl
                        have hHd : (ss6 a).Held := .inr (.inr ⟨hra5, hqt⟩)
                        obtain ⟨v, hv1, hv2, hv3, hv4⟩ := hinv6.out.held a hal hHd
                        have hat := (atN_eq (hinv6.out.inv a hal)).2
                        have hqp' : qp = ((ss6 a).atN : Int) := by rw [← hqp]; exact hv4 hra5
                        have hv : v = qe + 1 := by rw [← hqe]; exact hv3 (by omega)
                        have hqb := hinv6.out.epoch a hal
                        rw [hqe] at hqb
                        have hapx := fun b' (hb' : b' < a) => hinv6.out.apart b' a (by omega) hal (by omega)
                        have hPj := hPp.out hR (ss6 a).atN hat
                        obtain ⟨cj, hcj⟩ : ∃ cj : Nat, 3 + (ss6 a).atN = cj := ⟨_, rfl⟩
                        rw [show (3 : Int) + ((ss6 a).atN : Int) = ((3 + (ss6 a).atN : Nat) : Int) by omega, hcj] at hPj
                        rw [hcj, hv] at hv1
                        subst hqp'
                        have hwq : IntKind.u64.wrap (qe + 1) = qe + 1 := u64_small (by omega)
                        generalize hatn : (ss6 a).atN = na at *
                        clear hqp hqe hqt hv2 hv3 hv4 hv
                        replace hHd := Lib.hid hHd
                        replace hra5 := Lib.hid hra5
                        replace hPj := Lib.hid hPj
                        replace hcj := Lib.hid hcj
                        replace hv1 := Lib.hid hv1
                        replace hapx := Lib.hid hapx
                        replace hatn := Lib.hid hatn
                        go_wp2_with fail
                        refine (hPj.out _).mono ?_; rintro e w9 ⟨rfl, hb9⟩
                        have hcw9 := hcw8.out.keep hb9
                        have C9 := C8.out.below hb9 C8.out.lt
                        have R9 := R8.out.below hb9 (by simp)
                        have hs9 := hb9.size
                        have hldq := ctl_load hcw9.own.heap hv1.out
                        clear hb9 c0 c1 c2 c3 c4 c5 q0 q1 q2
                        replace hcw9 := Lib.hid hcw9
                        replace C9 := Lib.hid C9
                        replace R9 := Lib.hid R9
                        replace hldq := Lib.hid hldq
                        go_wp2_with fail
                        refine (hldq.out).mono ?_; rintro e w10 ⟨rfl, t10⟩
                        have hcw10 := hcw9.out.turned t10
                        have C10 := C9.out.keep (t10.2.block _ C9.out.lt (fun h => by have := hcw9.out.own.new _ h; omega))
                        have R10 := R9.out.keep (t10.2.block _ R9.out.lt (fun h => by have := hcwa.out.own.heap.own _ h; omega))
                        have q0 := R10.cell 0
                        have q1 := R10.cell 1
                        have q2 := R10.cell 2
                        clear t10
                        replace hcw10 := Lib.hid hcw10
                        replace C10 := Lib.hid C10
                        replace R10 := Lib.hid R10
                        go_wp2_with fail
                        clear q0 q1 q2
                        go_loopw [24] (fun bv wr => HoldB w10 a bv wr) (fun b _ => a + 1 - (intOf b).toNat)
                        case atStart => exact ⟨0, Nat.zero_le _, rfl, Below.refl _ _⟩
                        case round =>
                          obtain ⟨nb, hnb, rfl, hbl⟩ := hrel
                          by_cases hnl : nb < a
                          · have d6 : decide ((nb : Int) < (a : Int)) = true := by simp; omega
                            have hcwb := hcw10.out.keep hbl
                            obtain ⟨bb, hbb⟩ : ∃ bb, bs[nb]? = some bb := ⟨_, List.getElem?_eq_getElem (by omega)⟩
                            have pb := cel.out _ _ _ _ _ _ hcwb hbb
                            have hEb := hcwb.each nb bb hbb
                            have hRb := pinResult_any hEb.1.lies
                            rcases hrb : (ss6 nb).result with ⟨⟨tp, te, tt⟩, ti⟩
                            rw [hrb] at hRb
                            have hrb' := pin_res hrb
                            have i7 : (0 : Int) ≤ (nb : Int) := by omega
                            have i8 : (nb : Int) < (m : Int) + 1 := by omega
                            have Rb := R10.out.below hbl R10.out.lt
                            replace hRb := Lib.hid hRb
                            replace hEb := Lib.hid hEb
                            replace hcwb := Lib.hid hcwb
                            replace hrb := Lib.hid hrb
                            replace hrb' := Lib.hid hrb'
                            replace hbb := Lib.hid hbb
                            replace hbl := Lib.hid hbl
                            replace Rb := Lib.hid Rb
                            go_wp2_with fail
                            refine (hRb.out).mono ?_; rintro e w11 ⟨rfl, hb11⟩
                            have hbl11 := (Below.next_ hbl.out hb11).alloc (by have := hbl.out.size; have := hb11.size; omega) (.cells #[.int .i64 tp, .int .u64 te, .bool tt] 76)
                            have R11 := (Rb.out.below hb11 Rb.out.lt).alloc (.cells #[.int .i64 tp, .int .u64 te, .bool tt] 76)
                            have T11 := Blk.new w11 76 #[.int .i64 tp, .int .u64 te, .bool tt]
                            have q0 := R11.cell 0
                            have q1 := R11.cell 1
                            have q2 := R11.cell 2
                            have y0 := T11.cell 0
                            have y1 := T11.cell 1
                            have y2 := T11.cell 2
                            clear hb11 pb
                            replace hbl11 := Lib.hid hbl11
                            replace R11 := Lib.hid R11
                            replace T11 := Lib.hid T11
                            cases ti with
                            | false =>
                              go_wp2_with fail
                              go_roundw
                              case rel => exact ⟨nb + 1, by omega, by go_num, hbl11.out⟩
                              case measure => simp [intOf]; omega
                            | true =>
                              cases tt with
                              | true =>
                                go_wp2_with fail
                                go_roundw
                                case rel => exact ⟨nb + 1, by omega, by go_num, hbl11.out⟩
                                case measure => simp [intOf]; omega
                              | false =>
                                have hrb5 := hrb'.out.1.1 rfl
                                obtain ⟨htp, hte, htt⟩ := hrb'.out.2 rfl
                                have hHb : (ss6 nb).Held := .inr (.inr ⟨hrb5, htt⟩)
                                obtain ⟨v', _, _, _, hv4'⟩ := hinv6.out.held nb (by omega) hHb
                                have hne := hapx.out nb hnl hHb hHd.out
                                have d7 : (tp == (na : Int)) = false := by
                                  rw [beq_eq_false_iff_ne, ← htp, hv4' hrb5]
                                  omega
                                clear hv4' htp hte htt
                                replace hne := Lib.hid hne
                                replace hHb := Lib.hid hHb
                                replace hrb5 := Lib.hid hrb5
                                go_wp2_with fail
                                go_roundw
                                case rel => exact ⟨nb + 1, by omega, by go_num, hbl11.out⟩
                                case measure => simp [intOf]; omega
                          · have d6 : decide ((nb : Int) < (a : Int)) = false := by simp; omega
                            have hcwb := hcw10.out.keep hbl
                            have Cb := C10.out.below hbl C10.out.lt
                            replace hcwb := Lib.hid hcwb
                            replace Cb := Lib.hid Cb
                            replace hbl := Lib.hid hbl
                            go_wp2_with fail
                            go_roundw
                            case rel => exact ⟨⟨a + 1, _, by omega, by go_num, hcwb.out⟩, Cb.out⟩
                            case measure => simp [intOf]; omega
                  · have d5 : decide ((a : Int) < (m : Int) + 1) = false := by simp; omega
                    replace hcwa := Lib.hid hcwa
                    replace ba0 := Lib.hid ba0
                    go_wp2_with fail
                    go_roundw
                    case rel => first | exact ⟨⟨k + 1, S6, _, ss6, _, by omega, by go_num, ⟨hep.1, by omega⟩, hcwa.out, hinv6.out, hft6, hlt6⟩, ba0.out⟩ | ((repeat apply Exists.intro); refine ⟨?rr, ?ff⟩; (case ff => first | exact rfl | (apply act_eq; apply slots_eq; repeat' (first | apply cons_eq | exact rfl | (apply congrArg Value.bool; first | (simp; done) | (simp; omega)) | (simp [*]; done)))); (case rr => exact ⟨⟨k + 1, S6, _, ss6, _, by omega, by go_num, ⟨hep.1, by omega⟩, hcwa.out, hinv6.out, hft6, hlt6⟩, ba0.out⟩))
                    case measure => simp [intOf]; omega
        · have d2 : decide ((k : Int) < (len : Int)) = false := by simp; omega
          have hFa := faults_any hcw.own.heap
          rw [hft] at hFa
          replace hFa := Lib.hid hFa
          go_wp2_with fail
          refine (hFa.out).mono ?_; rintro e w6 ⟨rfl, rfl⟩
          go_wp2_with fail
          refine (awake25 _).mono ?_; rintro e w7 ⟨rfl, hb7⟩
          go_wp2_with fail
          go_ret
          exact ⟨rfl, Below.next_ (hz1.out.trans (hcw.own.below.mono hz1.out.size)) hb7⟩
end Go.Proofs.Ytpldnbdcpihjcaa
