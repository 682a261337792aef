/-
  The walk over the law that a view tells what a read tells (layer 27). No condition.
-/
import Derived.Test.YtmlnhjfdhjachaaGreatViewG
import Derived.Test.YtmlnhjfdhjachaaGreatReadY
import Derived.Test.YtmlnhjfdhjachaaGreatNextP
import Derived.Test.YtmlnhjfdhjachaaGreatTwo
import Derived.Deep.CutRange
import Derived.Deep.RegionHeld3
import Derived.StillTailTactics
namespace Go.Proofs.YtmlnhjfdhjachaaGreat
set_option linter.unusedVariables false
open Go.ChangeShapes Go.WideShapes Go.ChangeAt Go.RowKit
open Go.ChangeMaps (setBlock)

/-- Between two rounds of the first loop. -/
def VR1 (w w1 : World) (len : Nat) (c : PCfg) (ep : Int) (hb : Nat) (iv : Value) (wr : World) : Prop :=
  ∃ (k : Nat) (S : PHeap) (F : Nat → Prop) (tx : Nat → Option ByteArray) (st : Nat → List PVersion) (m : List (ByteArray × ByteArray)), k ≤ len ∧ iv = .int .i64 k ∧ OwnK w1 hb S F [(w.heap.size, cfgO c)] wr ∧ Laid S c tx st (fun _ => 0) 0 ∧ S.last ≤ 1 + 2 * k ∧ (∀ j, (st j).length ≤ k) ∧ Know c tx st ep m
theorem view_most {c : PCfg} (h : c.Right) : c.shelves * (4 + 2 * ((30 : Nat) : Int)) + 20 ≤ 10000 := by
  have := h.shelves
  rw [show (4 + 2 * ((30 : Nat) : Int)) = 64 from by decide]
  omega
set_option maxRecDepth 100000 in
theorem vreadsSmall (A : Option Addr) (len cap : Nat) (c : PCfg) (key : ByteArray) (hbad : c.right = false ∨ 30 < len ∨ 100 < key.size) (w : World) :
    Calls Tryz.prog 4 #[c.val, .slice A len cap, .string key] w fun e w' => e = .returned (.bool true) ∧ Below w.heap.size w w' := by
  have hCV : c.val = .agg #[.int .i64 c.cap, .int .i64 c.pins, .int .i64 c.shelves, .int .i64 c.queue, .int .i64 c.watchers, .int .u64 c.seed] := rfl
  have hRR := fun W => right_cfg c W
  have hz : Below w.heap.size w (w.alloc (.cells #[.int .i64 c.cap, .int .i64 c.pins, .int .i64 c.shelves, .int .i64 c.queue, .int .i64 c.watchers, .int .u64 c.seed] 24)) := (Below.refl _ _).alloc (Nat.le_refl _) _
  have B0 := Blk.new w 24 #[.int .i64 c.cap, .int .i64 c.pins, .int .i64 c.shelves, .int .i64 c.queue, .int .i64 c.watchers, .int .u64 c.seed]
  have hcs : c.right = false ∨ (c.right = true ∧ 30 < len) ∨ (c.right = true ∧ ¬ 30 < len ∧ 100 < key.size) := by
    rcases hbad with h | h | h
    · exact .inl h
    · cases c.right with
      | false => exact .inl rfl
      | true => exact .inr (.inl ⟨rfl, h⟩)
    · cases c.right with
      | false => exact .inl rfl
      | true =>
        by_cases h30 : 30 < len
        · exact .inr (.inl ⟨rfl, h30⟩)
        · exact .inr (.inr ⟨rfl, h30, h⟩)
  rw [hCV] at hRR ⊢
  clear hCV hbad
  generalize c.right = rt at *
  replace hRR := Lib.hid hRR
  replace hz := Lib.hid hz
  replace B0 := Lib.hid B0
  rcases hcs with rfl | ⟨rfl, hl⟩ | ⟨rfl, hl, hk⟩
  · go_enter Tryz.func4, Tryz.ntmps4
    go_wp2_with fail
    refine (hRR.out _).mono ?_; rintro e w1 ⟨rfl, hb1⟩
    go_wp2_with fail
    refine (awake27 _).mono ?_; rintro e w7 ⟨rfl, hb7⟩
    go_wp2_with fail
    go_ret
    have h1 := nx hz.out (Nat.le_refl _) hb1
    exact ⟨rfl, h1.trans (hb7.mono h1.size)⟩
  · have d1 : decide ((30 : Int) < (len : Int)) = true := by simp; omega
    go_enter Tryz.func4, Tryz.ntmps4
    go_wp2_with fail
    refine (hRR.out _).mono ?_; rintro e w1 ⟨rfl, hb1⟩
    go_wp2_with fail
    refine (awake27 _).mono ?_; rintro e w7 ⟨rfl, hb7⟩
    go_wp2_with fail
    go_ret
    have h1 := nx hz.out (Nat.le_refl _) hb1
    exact ⟨rfl, h1.trans (hb7.mono h1.size)⟩
  · have d1 : decide ((30 : Int) < (len : Int)) = false := by simp; omega
    have d2 : decide ((100 : Int) < (key.size : Int)) = true := by simp; omega
    go_enter Tryz.func4, Tryz.ntmps4
    go_wp2_with fail
    refine (hRR.out _).mono ?_; rintro e w1 ⟨rfl, hb1⟩
    go_wp2_with fail
    refine (awake27 _).mono ?_; rintro e w7 ⟨rfl, hb7⟩
    go_wp2_with fail
    go_ret
    have h1 := nx hz.out (Nat.le_refl _) hb1
    exact ⟨rfl, h1.trans (hb7.mono h1.size)⟩
set_option maxRecDepth 100000 in
set_option maxHeartbeats 4000000 in
theorem vreadsWalk (A : Option Addr) (len cap : Nat) (ls : List PChange) (hlen : ls.length = len) (hl30 : len ≤ 30) (c : PCfg) (hR : c.Right) (key : ByteArray) (hkey : key.size ≤ 100) (w : World) (hr : Reads w w.heap.size 3 A len (chL ls)) :
    Calls Tryz.prog 4 #[c.val, .slice A len cap, .string key] w fun e w' => e = .returned (.bool true) ∧ Below w.heap.size w w' := by
  have hCV : c.val = .agg #[.int .i64 c.cap, .int .i64 c.pins, .int .i64 c.shelves, .int .i64 c.queue, .int .i64 c.watchers, .int .u64 c.seed] := rfl
  have hRR := fun W => right_cfg c W
  rw [(PCfg.right_iff c).2 hR] at hRR
  have hz : Below w.heap.size w (w.alloc (.cells #[.int .i64 c.cap, .int .i64 c.pins, .int .i64 c.shelves, .int .i64 c.queue, .int .i64 c.watchers, .int .u64 c.seed] 24)) := (Below.refl _ _).alloc (Nat.le_refl _) _
  have B0 := Blk.new w 24 #[.int .i64 c.cap, .int .i64 c.pins, .int .i64 c.shelves, .int .i64 c.queue, .int .i64 c.watchers, .int .u64 c.seed]
  have hFd := fun W => field_any c hR W
  have hNv := fun W => viewNew_at c 0 (by decide) W
  have hNr := fun W => readNew_at c 0 (by decide) key (by omega) W
  have d1 : decide ((30 : Int) < (len : Int)) = false := by simp; omega
  have d2 : decide ((100 : Int) < (key.size : Int)) = false := by simp; omega
  obtain ⟨ep, hep⟩ : ∃ ep : Int, (len : Int).tdiv 2 = ep := ⟨_, rfl⟩
  have hep0 : 0 ≤ ep ∧ ep ≤ 15 := by rw [← hep, Int.tdiv_eq_ediv_of_nonneg (by omega)]; omega
  have hwe : IntKind.u64.wrap ep = ep := by rw [IntKind.wrap_u64]; omega
  have hwe2 : IntKind.i64.wrap ep = ep := IntWalk.i64_in _ (by omega)
  rw [hCV] at hRR hFd hNv hNr ⊢
  clear hCV
  replace hRR := Lib.hid hRR
  replace hFd := Lib.hid hFd
  replace hNv := Lib.hid hNv
  replace hNr := Lib.hid hNr
  replace hr := Lib.hid hr
  replace hz := Lib.hid hz
  replace B0 := Lib.hid B0
  replace hlen := Lib.hid hlen
  replace hep0 := Lib.hid hep0
  go_enter Tryz.func4, Tryz.ntmps4
  go_wp2_with fail
  refine (hRR.out _).mono ?_; rintro e w1 ⟨rfl, hb1⟩
  have C1 := B0.out.below hb1 (by simp)
  have hz1 := nx hz.out (Nat.le_refl _) hb1
  have c0 := C1.cell 0
  have c1 := C1.cell 1
  have c2 := C1.cell 2
  have c3 := C1.cell 3
  have c4 := C1.cell 4
  have c5 := C1.cell 5
  clear hb1
  replace C1 := Lib.hid C1
  replace hz1 := Lib.hid hz1
  go_wp2_with fail
  refine (hFd.out _).mono ?_; rintro e w2 ⟨hb, r, rfl, s2⟩
  obtain ⟨F2, o2⟩ := Own.of_sess s2
  have hF2 := o2.heap.own
  have hcw := C1.out.lt
  have k2 : OwnK w1 hb (fieldS c r) F2 [(w.heap.size, cfgO c)] w2 := ⟨o2, fun x hx => by
    rw [List.mem_singleton.1 hx]
    exact ⟨C1.out.below o2.below hcw, fun h => by have := o2.new _ h; simp only at this; omega⟩⟩
  clear s2 o2 c0 c1 c2 c3 c4 c5
  replace k2 := Lib.hid k2
  go_wp2_with fail
  go_loopw [8] (fun iv wr => VR1 w w1 len c ep hb iv wr) (fun i _ => len + 1 - (intOf i).toNat)
  case atStart => exact ⟨0, _, F2, _, _, [], Nat.zero_le _, rfl, k2.out, field_laid c hR r, by show (1 : Int) ≤ _; omega, fun _ => Nat.le_refl _, know_none c ep⟩
  case round =>
    clear k2
    obtain ⟨k, S, F, tx, st, m, hk, rfl, hO, hL, hla, hst, hkn⟩ := hrel
    have mc : (w.heap.size, cfgO c) ∈ [(w.heap.size, cfgO c)] := by simp
    have hbw : ∀ (W : World) (S : PHeap) (F : Nat → Prop) (K : List (Nat × Obj)), OwnK w1 hb S F K W → Below w.heap.size w W := fun W S F K h => al1_below hz1.out h
    by_cases hlt : k < len
    · have d3 : decide ((k : Int) < (len : Int)) = true := by simpa using hlt
      have i1 : (0 : Int) ≤ (k : Int) := by omega
      have i2 : (k : Int) < (len : Int) := by omega
      have hl63 : (k : Int) + 1 ≤ 9223372036854775807 := by omega
      obtain ⟨ch, hch⟩ : ∃ ch, ls[k]? = some ch := ⟨_, List.getElem?_eq_getElem (by rw [hlen.out]; exact hlt)⟩
      obtain ⟨ad, rfl, hadb, hcl⟩ := hr.out.2 (show 0 < len by omega)
      obtain ⟨q0, q1, q2⟩ := chL_at ls k ch hch
      obtain ⟨ky, hs, vl⟩ := ch
      simp only at q0 q1 q2
      have hK8 : ∀ (W : World) (S : PHeap) (F : Nat → Prop) (K : List (Nat × Obj)), (w.heap.size, cfgO c) ∈ K → OwnK w1 hb S F K W → (W.cell? ⟨w.heap.size, 0, none⟩ = some (.int .i64 c.cap) ∧ W.cell? ⟨w.heap.size, 1, none⟩ = some (.int .i64 c.pins) ∧ W.cell? ⟨w.heap.size, 2, none⟩ = some (.int .i64 c.shelves) ∧ W.cell? ⟨w.heap.size, 3, none⟩ = some (.int .i64 c.queue) ∧ W.cell? ⟨w.heap.size, 4, none⟩ = some (.int .i64 c.watchers) ∧ W.cell? ⟨w.heap.size, 5, none⟩ = some (.int .u64 c.seed) ∧ W.cell? (ad.add (k * 3)) = some (.string ky) ∧ W.cell? ⟨(ad.add (k * 3)).block, (ad.add (k * 3)).off + 1, none⟩ = some (.bool hs) ∧ W.cell? ⟨(ad.add (k * 3)).block, (ad.add (k * 3)).off + 2, none⟩ = some (.string vl)) := fun W S F K hmK h => by
        have hB : Blk W w.heap.size 24 #[.int .i64 c.cap, .int .i64 c.pins, .int .i64 c.shelves, .int .i64 c.queue, .int .i64 c.watchers, .int .u64 c.seed] := (h.keep _ hmK).1
        refine ⟨hB.cell 0, hB.cell 1, hB.cell 2, hB.cell 3, hB.cell 4, hB.cell 5, keepc (hbw _ _ _ _ h) hadb (hcl _ _ q0), ?_, ?_⟩
        · have e : (⟨(ad.add (k * 3)).block, (ad.add (k * 3)).off + 1, none⟩ : Addr) = (ad.add (k * 3)).add 1 := rfl
          rw [e, add_of_add]
          exact keepc (hbw _ _ _ _ h) hadb (hcl _ _ q1)
        · have e : (⟨(ad.add (k * 3)).block, (ad.add (k * 3)).off + 2, none⟩ : Addr) = (ad.add (k * 3)).add 2 := rfl
          rw [e, add_of_add]
          exact keepc (hbw _ _ _ _ h) hadb (hcl _ _ q2)
      have sO := hK8 _ _ _ _ mc hO
      have hw' := hbw _ _ _ _ hO
      clear q0 q1 q2 hcl
      replace hbw := Lib.hid hbw
      replace hK8 := Lib.hid hK8
      replace hw' := Lib.hid hw'
      replace hch := Lib.hid hch
      replace hO := Lib.hid hO
      replace hL := Lib.hid hL
      replace hkn := Lib.hid hkn
      replace hst := Lib.hid hst
      by_cases hkb : 100 < ky.size
      · have d4 : decide ((100 : Int) < (ky.size : Int)) = true := by simp; omega
        obtain ⟨-, -, -, -, -, -, r0, r1, r2⟩ := sO
        go_upto_region 7 with fail
        go_quiet (fail)
        go_wp2_with fail
        refine (awake27 _).mono ?_; rintro e w7 ⟨rfl, hb7⟩
        go_wp2_with fail
        go_ret
        exact ⟨rfl, Below.next_ (below_drewN hw'.out _) hb7⟩
      have d4 : decide ((100 : Int) < (ky.size : Int)) = false := by simp; omega
      by_cases hvb : 200 < vl.size
      · have d5 : decide ((200 : Int) < (vl.size : Int)) = true := by simp; omega
        obtain ⟨-, -, -, -, -, -, r0, r1, r2⟩ := sO
        go_upto_region 7 with fail
        go_quiet (fail)
        go_wp2_with fail
        refine (awake27 _).mono ?_; rintro e w7 ⟨rfl, hb7⟩
        go_wp2_with fail
        go_ret
        exact ⟨rfl, Below.next_ (below_drewN hw'.out _) hb7⟩
      have d5 : decide ((200 : Int) < (vl.size : Int)) = false := by simp; omega
      have hLy : ∀ W, OwnK w1 hb S F [(w.heap.size, cfgO c)] W → Calls Tryz.prog 17 _ W _ := fun W h => lay_any (key := ky) (value := vl) (has := hs) (ep := (k : Int)) hR h hL.out (by omega) (by omega) (by omega) ⟨by omega, by omega⟩
      have hwk : IntKind.u64.wrap (k : Int) = (k : Int) := by rw [IntKind.wrap_u64]; omega
      replace hLy := Lib.hid hLy
      go_upto_region 7 with fail
      go_region_held3 (fun W => W.cell? ⟨w.heap.size, 0, none⟩ = some (.int .i64 c.cap) ∧ W.cell? ⟨w.heap.size, 1, none⟩ = some (.int .i64 c.pins) ∧ W.cell? ⟨w.heap.size, 2, none⟩ = some (.int .i64 c.shelves) ∧ W.cell? ⟨w.heap.size, 3, none⟩ = some (.int .i64 c.queue) ∧ W.cell? ⟨w.heap.size, 4, none⟩ = some (.int .i64 c.watchers) ∧ W.cell? ⟨w.heap.size, 5, none⟩ = some (.int .u64 c.seed) ∧ W.cell? (ad.add (k * 3)) = some (.string ky) ∧ W.cell? ⟨(ad.add (k * 3)).block, (ad.add (k * 3)).off + 1, none⟩ = some (.bool hs) ∧ W.cell? ⟨(ad.add (k * 3)).block, (ad.add (k * 3)).off + 2, none⟩ = some (.string vl))
        (first | assumption | go_keep)
        (first | (go_at_call 17; refine (hLy.out _ (by first | exact hO.out | exact hO.out.drew | exact hO.out.drewN _)).mono ?_; rintro e w5 ⟨S5, F5, ok, tx5, st5, rfl, o5, hok⟩; have s5 := hK8.out _ _ _ _ (by simp) o5; replace o5 := Lib.hid o5; replace hok := Lib.hid hok))
      all_goals
        obtain ⟨-, -, -, -, -, -, r0, r1, r2⟩ := s5
        obtain ⟨no, hno⟩ : ∃ no, no = !ok := ⟨_, rfl⟩
        rw [← hno]
        cases ok with
        | false =>
          obtain rfl : no = true := hno
          have hw' := hbw.out _ _ _ _ o5.out
          clear hok
          replace hw' := Lib.hid hw'
          go_wp2_with fail
          refine (awake27 _).mono ?_; rintro e w7 ⟨rfl, hb7⟩
          go_wp2_with fail
          go_ret
          first | exact ⟨rfl, Below.next_ hw'.out hb7⟩ | exact ⟨rfl, Below.next_ hw'.out.drew hb7⟩ | exact ⟨rfl, Below.next_ (below_drewN hw'.out _) hb7⟩
        | true =>
          obtain rfl : no = false := hno
          obtain ⟨hL5, hla5, hln5, hkn5⟩ := hok.out rfl
          have hkn6 := hkn5 ep m (nextP m ⟨ky, hs, vl⟩ (decide ((k : Int) ≤ ep))) hkn.out (fun t => by
            rw [nextP_get]
            simp only [decide_eq_true_eq])
          clear hok hkn5
          replace hL5 := Lib.hid hL5
          replace hln5 := Lib.hid hln5
          replace hkn6 := Lib.hid hkn6
          go_wp2_with fail
          go_roundw
          case rel =>
            have oE := (by first | exact o5.out | exact o5.out.drew | exact o5.out.drewN _ : OwnK w1 hb S5 F5 [(w.heap.size, cfgO c)] _)
            exact ⟨k + 1, S5, F5, tx5, st5, _, by omega, by go_num, oE, hL5.out, by omega, fun j => Nat.le_trans (hln5.out j) (Nat.succ_le_succ (hst.out j)), hkn6.out⟩
          case measure => simp [intOf]; omega
    · have d3 : decide ((k : Int) < (len : Int)) = false := by simpa using hlt
      have hSt : ∀ W, OwnK w1 hb S F [(w.heap.size, cfgO c)] W → Calls Tryz.prog 18 #[.pointer (some ⟨hb, 0, none⟩), .int .u64 1, .int .i64 0, .int .u64 ep] W fun e w' => e = .returned (.int .i64 0) ∧ ∃ F', OwnK w1 hb (S.set 1 0 ep) F' [(w.heap.size, cfgO c)] w' := fun W h => (ctl_store h.own.heap hL.epoch ep (by have := hep0.out; omega)).mono fun e w' ⟨he, ht⟩ => ⟨he, _, h.turned ht⟩
      have hL2 := hL.at_epoch hR ep
      have hla2 : (S.set 1 0 ep).last ≤ 61 := by show S.last ≤ 61; omega
      generalize S.set 1 0 ep = S2 at *
      have hKc : ∀ (W : World) (S : PHeap) (F : Nat → Prop) (K : List (Nat × Obj)), (w.heap.size, cfgO c) ∈ K → OwnK w1 hb S F K W → (W.cell? ⟨w.heap.size, 0, none⟩ = some (.int .i64 c.cap) ∧ W.cell? ⟨w.heap.size, 1, none⟩ = some (.int .i64 c.pins) ∧ W.cell? ⟨w.heap.size, 2, none⟩ = some (.int .i64 c.shelves) ∧ W.cell? ⟨w.heap.size, 3, none⟩ = some (.int .i64 c.queue) ∧ W.cell? ⟨w.heap.size, 4, none⟩ = some (.int .i64 c.watchers) ∧ W.cell? ⟨w.heap.size, 5, none⟩ = some (.int .u64 c.seed)) := fun W S F K hmK h => by
        have hB : Blk W w.heap.size 24 #[.int .i64 c.cap, .int .i64 c.pins, .int .i64 c.shelves, .int .i64 c.queue, .int .i64 c.watchers, .int .u64 c.seed] := (h.keep _ hmK).1
        exact ⟨hB.cell 0, hB.cell 1, hB.cell 2, hB.cell 3, hB.cell 4, hB.cell 5⟩
      have hst30 : ∀ j, (st j).length ≤ 30 := fun j => Nat.le_trans (hst j) (by omega)
      have hsg := seen_get hR hkn key
      have hans := hkn.ans key
      obtain ⟨⟨tk, tv⟩, hgp⟩ : ∃ gp, getP m key = gp := ⟨_, rfl⟩
      rw [hgp] at hsg hans
      have hshl := hR.shelves
      clear hla hL hst
      replace hL2 := Lib.hid hL2
      replace hSt := Lib.hid hSt
      replace hO := Lib.hid hO
      replace hkn := Lib.hid hkn
      replace hst30 := Lib.hid hst30
      replace hKc := Lib.hid hKc
      replace hsg := Lib.hid hsg
      replace hans := Lib.hid hans
      replace hgp := Lib.hid hgp
      replace hbw := Lib.hid hbw
      replace hshl := Lib.hid hshl
      go_wp2_with fail
      refine (hSt.out _ hO.out).mono ?_; rintro e w4 ⟨rfl, F4, o4⟩
      have s4 := hKc.out _ _ _ _ (by simp) o4
      have hF4 := o4.own.heap.own
      have hKl := fun x hx => o4.lt (x := x) hx
      have hBs := o4.own.below.size
      replace o4 := Lib.hid o4
      replace hF4 := Lib.hid hF4
      replace hKl := Lib.hid hKl
      clear hSt hO
      go_upto_region 10 with fail
      go_region_held3 (fun W => W.cell? ⟨w.heap.size, 0, none⟩ = some (.int .i64 c.cap) ∧ W.cell? ⟨w.heap.size, 1, none⟩ = some (.int .i64 c.pins) ∧ W.cell? ⟨w.heap.size, 2, none⟩ = some (.int .i64 c.shelves) ∧ W.cell? ⟨w.heap.size, 3, none⟩ = some (.int .i64 c.queue) ∧ W.cell? ⟨w.heap.size, 4, none⟩ = some (.int .i64 c.watchers) ∧ W.cell? ⟨w.heap.size, 5, none⟩ = some (.int .u64 c.seed))
        (first | assumption | go_keep)
        (first | (go_at_call 8; refine (hNv.out _).mono ?_; rintro e w5 ⟨b, rfl, hR5, hb5⟩; have o5 := (by first | exact o4.out.below hb5 | exact o4.out.drew.below hb5 | exact (o4.out.drewN _).below hb5 : OwnK w1 hb S2 F4 [(w.heap.size, cfgO c)] w5); have hR5' : RAt viewRout w4.heap.size w5 b (newView c 0) := hR5; have s5 := hKc.out _ _ _ _ (by simp) o5; have hz5 : w4.heap.size ≤ w5.heap.size := hb5.size; clear hR5 hb5; replace o5 := Lib.hid o5; replace hR5' := Lib.hid hR5') | (go_at_call 19; refine (hNr.out _).mono ?_; rintro e w6 ⟨b2, rfl, hR6, hb6⟩; have o6 := (by first | exact o5.out.below hb6 | exact o5.out.drew.below hb6 | exact (o5.out.drewN _).below hb6 : OwnK w1 hb S2 F4 [(w.heap.size, cfgO c)] w6); have hb6' : Below w5.heap.size w5 w6 := (by first | exact hb6 | exact (Below.refl _ _).drew.trans hb6 | exact (below_drewN (Below.refl _ _) _).trans hb6); have hR6' : RAt readRout w5.heap.size w6 b2 (newRead c 0 key) := hR6; have s6 := hKc.out _ _ _ _ (by simp) o6; clear hR6 hb6; replace o6 := Lib.hid o6; replace hR6' := Lib.hid hR6'; replace hb6' := Lib.hid hb6'))
      all_goals
        have hT6 : Two viewRout readRout w1 hb S2 F4 [(w.heap.size, cfgO c)] b (newView c 0) b2 (newRead c 0 key) w6 := Two.start o6.out hF4.out hKl.out hBs hR5'.out hz5 hb6'.out hR6'.out
        have hA := fun W (hb' : Below w6.heap.size w6 W) => (hT6.below hb').alone (by rw [hL2.out.faults]; decide) (by omega) 10000 (by decide)
        clear s4 s5 s6 hT6
        replace hA := Lib.hid hA
        go_wp2_with fail
        refine (hA.out _ (by first | exact Below.refl _ _ | exact (Below.refl _ _).drew | exact below_drewN (Below.refl _ _) _)).mono ?_; rintro e w7 ⟨xs, S7, x7, F7, hRun, hstop, rfl, hT7⟩
        obtain ⟨h71, h72, h73, h74, h75, h76, h77, h78⟩ := view_alone hR (by decide) hL2.out (fun _ _ => rfl) 30 (by decide) hst30.out hRun hstop (view_most hR)
        have ho7 : x7.out = putAll [] (seenAt ep tx st c.shelves.toNat) := by unfold PView.out; rw [h72, if_pos rfl, h73]
        have hl7 : S7.last ≤ 61 := by omega
        have hA7 := hT7.swap.alone (by rw [h75.faults]; decide) (by omega) 10000 (by decide)
        clear hRun hstop hA h73 h74 h76 h77 h78
        replace hA7 := Lib.hid hA7
        replace h75 := Lib.hid h75
        replace hT7 := Lib.hid hT7
        replace ho7 := Lib.hid ho7
        replace h72 := Lib.hid h72
        replace h71 := Lib.hid h71
        go_wp2_with fail
        refine (hA7.out).mono ?_; rintro e w8 ⟨ys, S8, y8, F8, hRun, hstop, rfl, hT8⟩
        obtain ⟨h81, h82, h83, h84, h85, h86, h87, h88⟩ := read_alone hR (by decide) h75.out (fun _ _ => rfl) 30 (by decide) hst30.out hRun hstop (by have := hshl.out; omega)
        rw [hans.out] at h83 h84
        have hT8s := hT8.swap
        obtain ⟨D1, D2, j1, j2, _⟩ := hT8s.rt
        have hRs := viewTold_any j1.2.2
        unfold ViewTold at hRs
        rw [ho7.out, h72.out] at hRs
        simp only [h71.out, if_true] at hRs
        obtain ⟨nv, hnv⟩ : ∃ nv, (putAll [] (seenAt ep tx st c.shelves.toNat)).length = nv := ⟨_, rfl⟩
        have hnv2 : nv ≤ 900 := by
          obtain ⟨_, _, pv, cv, sv, ov, _, hc⟩ := j1
          rcases hc with h | ⟨hI, _⟩
          · rw [h71.out] at h; cases h
          · have := out_len hI
            rw [ho7.out] at this
            omega
        rw [hnv] at hRs
        have hw8 := hbw.out _ _ _ _ hT8.own
        clear hRun hstop hA7 h85 h86 h87 h88 j1 j2 hT8
        replace hT8s := Lib.hid hT8s
        replace hRs := Lib.hid hRs
        replace h81 := Lib.hid h81
        replace h82 := Lib.hid h82
        replace h83 := Lib.hid h83
        replace h84 := Lib.hid h84
        replace hnv := Lib.hid hnv
        replace hw8 := Lib.hid hw8
        go_wp2_with fail
        refine (hRs.out).mono ?_; rintro e w9 ⟨vA, vc, rfl, hown, hb9⟩
        have hrd9 := Reads.of_own hown
        have hT9 := (hT8s.out.below hb9).below (Below.more_ (Below.refl _ _) (.cells #[.int .i64 0, .int .i64 0, .int .i64 0, .bool false, .string ⟨#[]⟩, .slice vA nv vc, .int .i64 0, .slice none 0 0, .int .i64 x7.mark, .int .u64 0] 42))
        have B9 := Blk.new w9 42 #[.int .i64 0, .int .i64 0, .int .i64 0, .bool false, .string ⟨#[]⟩, .slice vA nv vc, .int .i64 0, .slice none 0 0, .int .i64 x7.mark, .int .u64 0]
        obtain ⟨D1, D2, j1, j2, _⟩ := hT9.rt
        have hRs9 := readResult_in j2.2.2
        rw [show toldC y8 = #[.int .i64 0, .int .i64 0, .int .i64 0, .bool tk, .string tv, .slice none 0 0, .int .i64 0, .slice none 0 0, .int .i64 y8.mark, .int .u64 0] from by unfold toldC; rw [if_pos h81.out, h82.out, h83.out, h84.out], h81.out] at hRs9
        have hw9 := Below.more_ (Below.next_ hw8.out hb9) (.cells #[.int .i64 0, .int .i64 0, .int .i64 0, .bool false, .string ⟨#[]⟩, .slice vA nv vc, .int .i64 0, .slice none 0 0, .int .i64 x7.mark, .int .u64 0] 42)
        clear hown hb9 hRs j1 j2 hT9
        replace hrd9 := Lib.hid hrd9
        replace hRs9 := Lib.hid hRs9
        replace B9 := Lib.hid B9
        replace hw9 := Lib.hid hw9
        go_wp2_with fail
        refine (hRs9.out).mono ?_; rintro e w10 ⟨rfl, hb10⟩
        have hw10 := Below.more_ (Below.next_ hw9.out hb10) (.cells #[.int .i64 0, .int .i64 0, .int .i64 0, .bool tk, .string tv, .slice none 0 0, .int .i64 0, .slice none 0 0, .int .i64 y8.mark, .int .u64 0] 42)
        have B10 := (B9.out.below hb10 (by simp)).alloc (.cells #[.int .i64 0, .int .i64 0, .int .i64 0, .bool tk, .string tv, .slice none 0 0, .int .i64 0, .slice none 0 0, .int .i64 y8.mark, .int .u64 0] 42)
        have E10 := Blk.new w10 42 #[.int .i64 0, .int .i64 0, .int .i64 0, .bool tk, .string tv, .slice none 0 0, .int .i64 0, .slice none 0 0, .int .i64 y8.mark, .int .u64 0]
        have hs10 := hb10.size
        rw [World.size_alloc] at hs10
        have hrd10 := (((hrd9.out.alloc (Nat.le_refl _) (.cells #[.int .i64 0, .int .i64 0, .int .i64 0, .bool false, .string ⟨#[]⟩, .slice vA nv vc, .int .i64 0, .slice none 0 0, .int .i64 x7.mark, .int .u64 0] 42)).below (hb10.mono (by simp))).alloc (by omega) (.cells #[.int .i64 0, .int .i64 0, .int .i64 0, .bool tk, .string tv, .slice none 0 0, .int .i64 0, .slice none 0 0, .int .i64 y8.mark, .int .u64 0] 42)).more (B' := (w10.alloc (.cells #[.int .i64 0, .int .i64 0, .int .i64 0, .bool tk, .string tv, .slice none 0 0, .int .i64 0, .slice none 0 0, .int .i64 y8.mark, .int .u64 0] 42)).heap.size) (by rw [World.size_alloc]; omega)
        have hGt := get_any (cap := vc) key hnv.out (by omega) hrd10
        rw [hsg.out] at hGt
        simp only at hGt
        have p5 := B10.cell 5
        have hlB := B10.lt
        clear hb10 hRs9
        replace hGt := Lib.hid hGt
        replace hrd10 := Lib.hid hrd10
        replace B10 := Lib.hid B10
        replace E10 := Lib.hid E10
        replace hw10 := Lib.hid hw10
        go_wp2_with fail
        refine (hGt.out).mono ?_; rintro e w11 ⟨rfl, hb11⟩
        have E11 := E10.out.below hb11 E10.out.lt
        have hw11 := Below.next_ hw10.out hb11
        have u3 := E11.cell 3
        have u4 := E11.cell 4
        have hbt : (tv.toList == tv.toList) = true := by simp
        clear hb11 hGt E11 p5
        replace hw11 := Lib.hid hw11
        cases tk with
        | true =>
          go_wp2_with fail
          refine (awake27 _).mono ?_; rintro e w12 ⟨rfl, hb12⟩
          go_wp2_with fail
          go_ret
          exact ⟨rfl, Below.next_ hw11.out hb12⟩
        | false =>
          go_wp2_with fail
          refine (awake27 _).mono ?_; rintro e w12 ⟨rfl, hb12⟩
          go_wp2_with fail
          go_ret
          exact ⟨rfl, Below.next_ hw11.out hb12⟩
theorem walkReads27 (A : Option Addr) (len cap : Nat) (ls : List PChange) (hlen : ls.length = len) (c : PCfg) (key : ByteArray) (w : World) (hr : Reads w w.heap.size 3 A len (chL ls)) :
    Calls Tryz.prog 4 #[c.val, .slice A len cap, .string key] w fun e w' => e = .returned (.bool true) ∧ Below w.heap.size w w' := by
  by_cases hbad : c.right = false ∨ 30 < len ∨ 100 < key.size
  · exact vreadsSmall A len cap c key hbad w
  · have h1 : c.right = true := by cases h : c.right with
      | true => rfl
      | false => exact absurd (.inl h) hbad
    exact vreadsWalk A len cap ls hlen (Nat.le_of_not_lt fun h => hbad (.inr (.inl h))) c ((PCfg.right_iff c).1 h1) key (Nat.le_of_not_lt fun h => hbad (.inr (.inr h))) w hr
end Go.Proofs.YtmlnhjfdhjachaaGreat
