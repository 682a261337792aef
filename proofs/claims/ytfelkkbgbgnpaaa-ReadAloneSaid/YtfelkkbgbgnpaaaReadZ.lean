/-
  The walk over the law of reading alone (layer 26). No condition.
-/
import Derived.Test.YtfelkkbgbgnpaaaReadY
import Derived.Test.YtfelkkbgbgnpaaaReadG
import Derived.Test.YtfelkkbgbgnpaaaTab6
import Derived.Deep.CutRange
import Derived.Deep.RegionHeld3
import Derived.StillTailTactics
namespace Go.Proofs.Ytfelkkbgbgnpaaa
set_option linter.unusedVariables false
open Go.ChangeShapes Go.WideShapes Go.ChangeAt Go.RowKit
open Go.ChangeMaps (setBlock)

theorem OwnK.hold {w0 w : World} {hb : Nat} {S : PHeap} {F : Nat → Prop} {K : List (Nat × Obj)} (h : OwnK w0 hb S F K w) {g : Nat} {o : Obj} (hg : w.heap[g]? = some o) (hF : ¬ F g) : OwnK w0 hb S F ((g, o) :: K) w := ⟨h.own, fun x hx => by
  rcases List.mem_cons.1 hx with rfl | hx
  · exact ⟨hg, hF⟩
  · exact h.keep x hx⟩
theorem OwnK.sub {w0 w : World} {hb : Nat} {S : PHeap} {F : Nat → Prop} {K K' : List (Nat × Obj)} (h : OwnK w0 hb S F K w) (hs : ∀ x ∈ K', x ∈ K) : OwnK w0 hb S F K' w := ⟨h.own, fun x hx => h.keep x (hs x hx)⟩
/-- A new row takes the old one's place. -/
theorem OwnK.row {w0 w w' : World} {hb : Nat} {S : PHeap} {F : Nat → Prop} {a b : Nat × Obj} (h : OwnK w0 hb S F [a, b] w) {g : Nat} {o : Obj} (hb' : Below w.heap.size w w') (hg : w'.heap[g]? = some o) (hs : w.heap.size ≤ g) : OwnK w0 hb S F [(g, o), b] w' :=
  ((h.below hb').hold hg (fun hF => by have := h.own.heap.own _ hF; omega)).sub fun x hx => by
    simp only [List.mem_cons, List.not_mem_nil, or_false] at hx ⊢
    rcases hx with hx | hx
    · exact .inl hx
    · exact .inr (.inr hx)
/-- The pairs behind a change at an epoch. -/
def nextP (m : List (ByteArray × ByteArray)) (ch : PChange) (le : Bool) : List (ByteArray × ByteArray) :=
  if le then (if ch.has then putP (geP ch.key) ch.key ch.value m false else delP m ch.key) else m
theorem nextP_get (m : List (ByteArray × ByteArray)) (ch : PChange) (le : Bool) (t : ByteArray) : getP (nextP m ch le) t = if t = ch.key ∧ le = true then (ch.has, if ch.has then ch.value else ByteArray.empty) else getP m t := by
  unfold nextP
  cases le with
  | false => simp
  | true =>
    cases hh : ch.has with
    | true =>
      simp only [if_true]
      rw [getP_put]
      by_cases ht : t = ch.key
      · simp [ht]
      · simp [ht]
    | false =>
      simp only [if_true, Bool.false_eq_true, if_false]
      rw [getP_del]
      by_cases ht : t = ch.key
      · simp [ht]
      · simp [ht]
theorem nextP_len (m : List (ByteArray × ByteArray)) (ch : PChange) (le : Bool) : (nextP m ch le).length ≤ m.length + 1 := by
  unfold nextP
  split
  · split
    · exact putP_len _ _ _ _ _
    · have : (delP m ch.key).length ≤ m.length := List.length_filter_le _ _
      omega
  · omega
def cfgO (c : PCfg) : Obj := Obj.cells #[.int .i64 c.cap, .int .i64 c.pins, .int .i64 c.shelves, .int .i64 c.queue, .int .i64 c.watchers, .int .u64 c.seed] 24
/-- Between two rounds of the first loop. -/
def AL1 (w w1 : World) (len : Nat) (ls : List PChange) (c : PCfg) (ep : Int) (hb : Nat) (mv iv : Value) (wr : World) : Prop :=
  ∃ (k : Nat) (S : PHeap) (F : Nat → Prop) (tx : Nat → Option ByteArray) (st : Nat → List PVersion) (m : List (ByteArray × ByteArray)) (g : Nat) (o : Obj), k ≤ len ∧ iv = .int .i64 k ∧ PRow mv g o m ∧ OwnK w1 hb S F [(g, o), (w.heap.size, cfgO c)] wr ∧ Laid S c tx st (fun _ => 0) 0 ∧ S.last ≤ 1 + 2 * k ∧ (∀ j, (st j).length ≤ k) ∧ Know c tx st ep m ∧ m.length ≤ k ∧ w1.heap.size ≤ g ∧ (∀ j ch, j < k → ls[j]? = some ch → ch.key.size ≤ 100)
/-- Between two rounds of the second and of the third loop. -/
def AL2 (w w1 : World) (len : Nat) (c : PCfg) (ep : Int) (hb : Nat) (tx : Nat → Option ByteArray) (st : Nat → List PVersion) (g : Nat) (o : Obj) (iv : Value) (wr : World) : Prop :=
  ∃ (k : Nat) (S : PHeap) (F : Nat → Prop), k ≤ len ∧ iv = .int .i64 k ∧ OwnK w1 hb S F [(g, o), (w.heap.size, cfgO c)] wr ∧ Laid S c tx st (fun _ => 0) ep ∧ S.last ≤ 61
theorem al1_below {w w1 wr : World} {hb : Nat} {S : PHeap} {F : Nat → Prop} {K : List (Nat × Obj)} (hz : Below w.heap.size w w1) (o : OwnK w1 hb S F K wr) : Below w.heap.size w wr := hz.trans (o.own.below.mono hz.size)
set_option maxRecDepth 100000 in
theorem alongSmall (A : Option Addr) (len cap : Nat) (c : PCfg) (ep : Int) (hbad : c.right = false ∨ 30 < len) (w : World) :
    Calls Try.prog 4 #[c.val, .slice A len cap, .int .u8 ep] w fun e w' => e = .returned (.bool true) ∧ Below w.heap.size w w' := by
  have hCV : c.val = .agg #[.int .i64 c.cap, .int .i64 c.pins, .int .i64 c.shelves, .int .i64 c.queue, .int .i64 c.watchers, .int .u64 c.seed] := rfl
  have hRR := fun W => right_cfg c W
  have hz : Below w.heap.size w (w.alloc (.cells #[.int .i64 c.cap, .int .i64 c.pins, .int .i64 c.shelves, .int .i64 c.queue, .int .i64 c.watchers, .int .u64 c.seed] 24)) := (Below.refl _ _).alloc (Nat.le_refl _) _
  have B0 := Blk.new w 24 #[.int .i64 c.cap, .int .i64 c.pins, .int .i64 c.shelves, .int .i64 c.queue, .int .i64 c.watchers, .int .u64 c.seed]
  have hcs : c.right = false ∨ (c.right = true ∧ 30 < len) := by
    rcases hbad with h | h
    · exact .inl h
    · cases c.right with
      | false => exact .inl rfl
      | true => exact .inr ⟨rfl, h⟩
  rw [hCV] at hRR ⊢
  clear hCV hbad
  generalize c.right = rt at *
  replace hRR := Lib.hid hRR
  replace hz := Lib.hid hz
  replace B0 := Lib.hid B0
  rcases hcs with rfl | ⟨rfl, hl⟩
  · go_enter Try.func4, Try.ntmps4
    go_wp2_with fail
    refine (hRR.out _).mono ?_; rintro e w1 ⟨rfl, hb1⟩
    go_wp2_with fail
    refine (awake26 _).mono ?_; rintro e w7 ⟨rfl, hb7⟩
    go_wp2_with fail
    go_ret
    have h1 := nx hz.out (Nat.le_refl _) hb1
    exact ⟨rfl, h1.trans (hb7.mono h1.size)⟩
  · have d1 : decide ((30 : Int) < (len : Int)) = true := by simp; omega
    go_enter Try.func4, Try.ntmps4
    go_wp2_with fail
    refine (hRR.out _).mono ?_; rintro e w1 ⟨rfl, hb1⟩
    go_wp2_with fail
    refine (awake26 _).mono ?_; rintro e w7 ⟨rfl, hb7⟩
    go_wp2_with fail
    go_ret
    have h1 := nx hz.out (Nat.le_refl _) hb1
    exact ⟨rfl, h1.trans (hb7.mono h1.size)⟩
set_option maxRecDepth 100000 in
set_option maxHeartbeats 2000000 in
theorem alongWalk (A : Option Addr) (len cap : Nat) (ls : List PChange) (hlen : ls.length = len) (hl30 : len ≤ 30) (c : PCfg) (hR : c.Right) (ep : Int) (hep : 0 ≤ ep ∧ ep ≤ 255) (w : World) (hr : Reads w w.heap.size 3 A len (chL ls)) :
    Calls Try.prog 4 #[c.val, .slice A len cap, .int .u8 ep] w fun e w' => e = .returned (.bool true) ∧ Below w.heap.size w w' := by
  have hCV : c.val = .agg #[.int .i64 c.cap, .int .i64 c.pins, .int .i64 c.shelves, .int .i64 c.queue, .int .i64 c.watchers, .int .u64 c.seed] := rfl
  have hRR := fun W => right_cfg c W
  rw [(PCfg.right_iff c).2 hR] at hRR
  have hz : Below w.heap.size w (w.alloc (.cells #[.int .i64 c.cap, .int .i64 c.pins, .int .i64 c.shelves, .int .i64 c.queue, .int .i64 c.watchers, .int .u64 c.seed] 24)) := (Below.refl _ _).alloc (Nat.le_refl _) _
  have B0 := Blk.new w 24 #[.int .i64 c.cap, .int .i64 c.pins, .int .i64 c.shelves, .int .i64 c.queue, .int .i64 c.watchers, .int .u64 c.seed]
  have hFd := fun W => field_any c hR W
  have hNw : ∀ (k : Int) (t : ByteArray), (0 ≤ k ∧ k ≤ 9223372036854775807) → t.size ≤ 9223372036854775807 → ∀ W, _ := fun k t hk ht W => readNew_at c k hk t ht W
  have hPp : ∀ (p : Int), 0 ≤ p ∧ p < c.pins → ∀ W, _ := fun p hp W => planPin_any c hR p hp W
  have d1 : decide ((30 : Int) < (len : Int)) = false := by simp; omega
  rw [hCV] at hRR hFd hNw hPp ⊢
  clear hCV
  replace hRR := Lib.hid hRR
  replace hFd := Lib.hid hFd
  replace hNw := Lib.hid hNw
  replace hPp := Lib.hid hPp
  replace hr := Lib.hid hr
  replace hz := Lib.hid hz
  replace B0 := Lib.hid B0
  replace hlen := Lib.hid hlen
  go_enter Try.func4, Try.ntmps4
  go_wp2_with fail
  refine (hRR.out _).mono ?_; rintro e w1 ⟨rfl, hb1⟩
  have C1 := B0.out.below hb1 (by simp)
  have hz1 := nx hz.out (Nat.le_refl _) hb1
  have c0 := C1.cell 0
  have c1 := C1.cell 1
  have c2 := C1.cell 2
  have c3 := C1.cell 3
  have c4 := C1.cell 4
  have c5 := C1.cell 5
  clear hb1
  replace C1 := Lib.hid C1
  replace hz1 := Lib.hid hz1
  go_wp2_with fail
  refine (hFd.out _).mono ?_; rintro e w2 ⟨hb, r, rfl, s2⟩
  obtain ⟨F2, o2⟩ := Own.of_sess s2
  have hF2 := o2.heap.own
  have hcw := C1.out.lt
  have k2 : OwnK w1 hb (fieldS c r) F2 [(w.heap.size, cfgO c)] w2 := ⟨o2, fun x hx => by
    rw [List.mem_singleton.1 hx]
    exact ⟨C1.out.below o2.below hcw, fun h => by have := o2.new _ h; simp only at this; omega⟩⟩
  have k3 := k2.add (.cells #[] 147)
  have hg := o2.below.size
  clear s2 o2 k2 c0 c1 c2 c3 c4 c5
  replace k3 := Lib.hid k3
  go_wp2_with fail
  go_loopw [8, 9] (fun mv iv wr => AL1 w w1 len ls c ep hb mv iv wr) (fun _ i _ => len + 1 - (intOf i).toNat)
  case atStart => exact ⟨0, _, F2, _, _, [], _, _, Nat.zero_le _, rfl, PRow.nil _, k3.out, field_laid c hR r, by show (1 : Int) ≤ _; omega, fun _ => Nat.le_refl _, know_none c ep, Nat.le_refl _, hg, fun j ch hj => by omega⟩
  case round =>
    clear k3
    obtain ⟨k, S, F, tx, st, m, g, o, hk, rfl, hm, hO, hL, hla, hst, hkn, hml, hgw, hks⟩ := hrel
    obtain ⟨cp, rfl⟩ := hm.slice
    have mc : (w.heap.size, cfgO c) ∈ [(g, o), (w.heap.size, cfgO c)] := by simp
    have hgk := hm.reads (hO.keep _ (List.mem_cons_self ..)).1
    by_cases hlt : k < len
    · have d2 : decide ((k : Int) < (len : Int)) = true := by simpa using hlt
      have i1 : (0 : Int) ≤ (k : Int) := by omega
      have i2 : (k : Int) < (len : Int) := by omega
      have hl63 : (k : Int) + 1 ≤ 9223372036854775807 := by omega
      obtain ⟨ch, hch⟩ : ∃ ch, ls[k]? = some ch := ⟨_, List.getElem?_eq_getElem (by rw [hlen.out]; exact hlt)⟩
      obtain ⟨ad, rfl, hadb, hcl⟩ := hr.out.2 (show 0 < len by omega)
      obtain ⟨q0, q1, q2⟩ := chL_at ls k ch hch
      obtain ⟨ky, hs, vl⟩ := ch
      simp only at q0 q1 q2
      have hbw : ∀ (W : World) (S : PHeap) (F : Nat → Prop) (K : List (Nat × Obj)), OwnK w1 hb S F K W → Below w.heap.size w W := fun W S F K h => al1_below hz1.out h
      have hK8 : ∀ (W : World) (S : PHeap) (F : Nat → Prop) (K : List (Nat × Obj)), (w.heap.size, cfgO c) ∈ K → OwnK w1 hb S F K W → (W.cell? ⟨w.heap.size, 0, none⟩ = some (.int .i64 c.cap) ∧ W.cell? ⟨w.heap.size, 1, none⟩ = some (.int .i64 c.pins) ∧ W.cell? ⟨w.heap.size, 2, none⟩ = some (.int .i64 c.shelves) ∧ W.cell? ⟨w.heap.size, 3, none⟩ = some (.int .i64 c.queue) ∧ W.cell? ⟨w.heap.size, 4, none⟩ = some (.int .i64 c.watchers) ∧ W.cell? ⟨w.heap.size, 5, none⟩ = some (.int .u64 c.seed) ∧ W.cell? (ad.add (k * 3)) = some (.string ky) ∧ W.cell? ⟨(ad.add (k * 3)).block, (ad.add (k * 3)).off + 1, none⟩ = some (.bool hs) ∧ W.cell? ⟨(ad.add (k * 3)).block, (ad.add (k * 3)).off + 2, none⟩ = some (.string vl)) := fun W S F K hmK h => by
        have hB : Blk W w.heap.size 24 #[.int .i64 c.cap, .int .i64 c.pins, .int .i64 c.shelves, .int .i64 c.queue, .int .i64 c.watchers, .int .u64 c.seed] := (h.keep _ hmK).1
        refine ⟨hB.cell 0, hB.cell 1, hB.cell 2, hB.cell 3, hB.cell 4, hB.cell 5, keepc (hbw _ _ _ _ h) hadb (hcl _ _ q0), ?_, ?_⟩
        · have e : (⟨(ad.add (k * 3)).block, (ad.add (k * 3)).off + 1, none⟩ : Addr) = (ad.add (k * 3)).add 1 := rfl
          rw [e, add_of_add]
          exact keepc (hbw _ _ _ _ h) hadb (hcl _ _ q1)
        · have e : (⟨(ad.add (k * 3)).block, (ad.add (k * 3)).off + 2, none⟩ : Addr) = (ad.add (k * 3)).add 2 := rfl
          rw [e, add_of_add]
          exact keepc (hbw _ _ _ _ h) hadb (hcl _ _ q2)
      have sO := hK8 _ _ _ _ mc hO
      have hw' := hbw _ _ _ _ hO
      clear q0 q1 q2 hcl
      replace hbw := Lib.hid hbw
      replace hK8 := Lib.hid hK8
      replace hw' := Lib.hid hw'
      replace hch := Lib.hid hch
      replace hO := Lib.hid hO
      replace hL := Lib.hid hL
      replace hkn := Lib.hid hkn
      replace hst := Lib.hid hst
      replace hks := Lib.hid hks
      replace hm := Lib.hid hm
      replace hgk := Lib.hid hgk
      by_cases hkb : 100 < ky.size
      · have d3 : decide ((100 : Int) < (ky.size : Int)) = true := by simp; omega
        obtain ⟨-, -, -, -, -, -, r0, r1, r2⟩ := sO
        replace hw' := hw'.out
        go_wp2_with fail
        refine (awake26 _).mono ?_; rintro e w7 ⟨rfl, hb7⟩
        go_wp2_with fail
        go_ret
        exact ⟨rfl, Below.next_ hw' hb7⟩
      have d3 : decide ((100 : Int) < (ky.size : Int)) = false := by simp; omega
      by_cases hvb : 200 < vl.size
      · have d4 : decide ((200 : Int) < (vl.size : Int)) = true := by simp; omega
        obtain ⟨-, -, -, -, -, -, r0, r1, r2⟩ := sO
        replace hw' := hw'.out
        go_wp2_with fail
        refine (awake26 _).mono ?_; rintro e w7 ⟨rfl, hb7⟩
        go_wp2_with fail
        go_ret
        exact ⟨rfl, Below.next_ hw' hb7⟩
      have d4 : decide ((200 : Int) < (vl.size : Int)) = false := by simp; omega
      have hLy : ∀ W, OwnK w1 hb S F [(g, o), (w.heap.size, cfgO c)] W → Calls Try.prog 23 _ W _ := fun W h => lay_any (key := ky) (value := vl) (has := hs) (ep := (k : Int)) hR h hL.out (by omega) (by omega) (by omega) ⟨by omega, by omega⟩
      have hwk : IntKind.u64.wrap (k : Int) = (k : Int) := by rw [IntKind.wrap_u64]; omega
      replace hLy := Lib.hid hLy
      go_upto_region 10 with fail
      go_region_held3 (fun W => W.cell? ⟨w.heap.size, 0, none⟩ = some (.int .i64 c.cap) ∧ W.cell? ⟨w.heap.size, 1, none⟩ = some (.int .i64 c.pins) ∧ W.cell? ⟨w.heap.size, 2, none⟩ = some (.int .i64 c.shelves) ∧ W.cell? ⟨w.heap.size, 3, none⟩ = some (.int .i64 c.queue) ∧ W.cell? ⟨w.heap.size, 4, none⟩ = some (.int .i64 c.watchers) ∧ W.cell? ⟨w.heap.size, 5, none⟩ = some (.int .u64 c.seed) ∧ W.cell? (ad.add (k * 3)) = some (.string ky) ∧ W.cell? ⟨(ad.add (k * 3)).block, (ad.add (k * 3)).off + 1, none⟩ = some (.bool hs) ∧ W.cell? ⟨(ad.add (k * 3)).block, (ad.add (k * 3)).off + 2, none⟩ = some (.string vl))
        (first | assumption | go_keep)
        (first | (go_at_call 23; refine (hLy.out _ (by first | exact hO.out | exact hO.out.drew | exact hO.out.drewN _)).mono ?_; rintro e w5 ⟨S5, F5, ok, tx5, st5, rfl, o5, hok⟩; have s5 := hK8.out _ _ _ _ (by simp) o5; replace o5 := Lib.hid o5; replace hok := Lib.hid hok))
      all_goals
        obtain ⟨-, -, -, -, -, -, r0, r1, r2⟩ := s5
        obtain ⟨no, hno⟩ : ∃ no, no = !ok := ⟨_, rfl⟩
        rw [← hno]
        cases ok with
        | false =>
          obtain rfl : no = true := hno
          have hw' := hbw.out _ _ _ _ o5.out
          clear hok
          go_wp2_with fail
          refine (awake26 _).mono ?_; rintro e w7 ⟨rfl, hb7⟩
          go_wp2_with fail
          go_ret
          first | exact ⟨rfl, Below.next_ hw' hb7⟩ | exact ⟨rfl, Below.next_ hw'.drew hb7⟩ | exact ⟨rfl, Below.next_ (below_drewN hw' _) hb7⟩
        | true =>
          obtain rfl : no = false := hno
          obtain ⟨hL5, hla5, hln5, hkn5⟩ := hok.out rfl
          have hks5 : ∀ j ch, j < k + 1 → ls[j]? = some ch → ch.key.size ≤ 100 := fun j ch hj hc => by
            by_cases hjk : j < k
            · exact hks.out j ch hjk hc
            · obtain rfl : j = k := by omega
              rw [hch.out] at hc
              injection hc with hc
              rw [← hc]
              show ky.size ≤ 100
              omega
          have hwe : IntKind.i64.wrap ep = ep := IntWalk.i64_in _ (by omega)
          clear hok
          replace hL5 := Lib.hid hL5
          replace hln5 := Lib.hid hln5
          replace hkn5 := Lib.hid hkn5
          replace hks5 := Lib.hid hks5
          by_cases hle : ep < k
          · have d5 : decide (ep < (k : Int)) = true := by simpa using hle
            go_wp2_with fail
            go_roundw
            case rel =>
              have oE := (by first | exact o5.out | exact o5.out.drew | exact o5.out.drewN _ : OwnK w1 hb S5 F5 [(g, o), (w.heap.size, cfgO c)] _)
              exact ⟨k + 1, S5, F5, tx5, st5, m, g, o, by omega, by go_num, hm.out, oE, hL5.out, by omega, fun j => Nat.le_trans (hln5.out j) (Nat.succ_le_succ (hst.out j)), hkn5.out ep m m hkn.out (fun t => by rw [if_neg (fun h => by omega)]), by omega, hgw, hks5.out⟩
            case measure => simp [intOf]; omega
          · have d5 : decide (ep < (k : Int)) = false := by simpa using hle
            have hnx := nextP_get m ⟨ky, hs, vl⟩ true
            have hnl := nextP_len m ⟨ky, hs, vl⟩ true
            have hkn6 := hkn5.out ep m (nextP m ⟨ky, hs, vl⟩ true) hkn.out (fun t => by
              rw [hnx t]
              by_cases ht : t = ky
              · simp [ht]
                omega
              · simp [ht])
            clear hnx
            replace hkn6 := Lib.hid hkn6
            cases hs with
            | true =>
              have hPt : ∀ W, OwnK w1 hb S5 F5 [(g, o), (w.heap.size, cfgO c)] W → Calls Try.prog 24 _ W _ := fun W h => put_any (cap := cp) ky vl rfl (by omega) (hm.out.reads (h.keep _ (List.mem_cons_self ..)).1).2
              have hK9 : ∀ W, OwnK w1 hb S5 F5 [(g, o), (w.heap.size, cfgO c)] W → (W.cell? (ad.add (k * 3)) = some (.string ky) ∧ W.cell? ⟨(ad.add (k * 3)).block, (ad.add (k * 3)).off + 1, none⟩ = some (.bool true) ∧ W.cell? ⟨(ad.add (k * 3)).block, (ad.add (k * 3)).off + 2, none⟩ = some (.string vl)) := fun W h => (hK8.out _ _ _ _ (by simp) h).2.2.2.2.2.2
              replace hPt := Lib.hid hPt
              replace hK9 := Lib.hid hK9
              go_upto_region 14 with fail
              go_region_held3 (fun W => W.cell? (ad.add (k * 3)) = some (.string ky) ∧ W.cell? ⟨(ad.add (k * 3)).block, (ad.add (k * 3)).off + 1, none⟩ = some (.bool true) ∧ W.cell? ⟨(ad.add (k * 3)).block, (ad.add (k * 3)).off + 2, none⟩ = some (.string vl))
                (first | assumption | go_keep)
                (first | (go_at_call 24; refine (hPt.out _ (by first | exact o5.out | exact o5.out.drew | exact o5.out.drewN _)).mono ?_; rintro e w6 ⟨v6, g6, o6, rfl, hp6, hg6, hge6, hb6⟩; have oE := (by first | exact o5.out.row hb6 hg6 hge6 | exact o5.out.drew.row hb6 hg6 hge6 | exact (o5.out.drewN _).row hb6 hg6 hge6 : OwnK w1 hb S5 F5 [(g6, o6), (w.heap.size, cfgO c)] w6); have s6 := (hK8.out _ _ _ _ (by simp) oE).2.2.2.2.2.2; have hgw6 : w1.heap.size ≤ g6 := Nat.le_trans o5.out.own.below.size hge6; replace oE := Lib.hid oE; replace hp6 := Lib.hid hp6; clear hg6 hge6 hb6))
              all_goals
                obtain ⟨cp6, rfl⟩ := hp6.out.slice
                go_wp2_with fail
                go_roundw
                case rel =>
                  have oF := (by first | exact oE.out | exact oE.out.drew | exact oE.out.drewN _ : OwnK w1 hb S5 F5 [(g6, o6), (w.heap.size, cfgO c)] _)
                  exact ⟨k + 1, S5, F5, tx5, st5, nextP m ⟨ky, true, vl⟩ true, g6, o6, by omega, by go_num, hp6.out, oF, hL5.out, by omega, fun j => Nat.le_trans (hln5.out j) (Nat.succ_le_succ (hst.out j)), hkn6.out, by omega, hgw6, hks5.out⟩
                case measure => simp [intOf]; omega
            | false =>
              have hDl : ∀ W, OwnK w1 hb S5 F5 [(g, o), (w.heap.size, cfgO c)] W → Calls Try.prog 25 _ W _ := fun W h => del_any (cap := cp) ky rfl (by omega) (hm.out.reads (h.keep _ (List.mem_cons_self ..)).1).2
              replace hDl := Lib.hid hDl
              go_wp2_with fail
              refine (hDl.out _ (by first | exact o5.out | exact o5.out.drew | exact o5.out.drewN _)).mono ?_; rintro e w6 ⟨v6, g6, o6, rfl, hp6, hg6, hge6, hb6⟩
              have oE := (by first | exact o5.out.row hb6 hg6 hge6 | exact o5.out.drew.row hb6 hg6 hge6 | exact (o5.out.drewN _).row hb6 hg6 hge6 : OwnK w1 hb S5 F5 [(g6, o6), (w.heap.size, cfgO c)] w6)
              have hgw6 : w1.heap.size ≤ g6 := Nat.le_trans o5.out.own.below.size hge6
              clear hg6 hge6 hb6
              replace oE := Lib.hid oE
              replace hp6 := Lib.hid hp6
              obtain ⟨cp6, rfl⟩ := hp6.out.slice
              go_wp2_with fail
              go_roundw
              case rel =>
                have oF := (by first | exact oE.out | exact oE.out.drew | exact oE.out.drewN _ : OwnK w1 hb S5 F5 [(g6, o6), (w.heap.size, cfgO c)] _)
                exact ⟨k + 1, S5, F5, tx5, st5, nextP m ⟨ky, false, vl⟩ true, g6, o6, by omega, by go_num, hp6.out, oF, hL5.out, by omega, fun j => Nat.le_trans (hln5.out j) (Nat.succ_le_succ (hst.out j)), hkn6.out, by omega, hgw6, hks5.out⟩
              case measure => simp [intOf]; omega
    · have d2 : decide ((k : Int) < (len : Int)) = false := by simpa using hlt
      have hkl : k = len := by omega
      have hSt : ∀ W, OwnK w1 hb S F [(g, o), (w.heap.size, cfgO c)] W → Calls Try.prog 26 #[.pointer (some ⟨hb, 0, none⟩), .int .u64 1, .int .i64 0, .int .u64 ep] W fun e w' => e = .returned (.int .i64 0) ∧ ∃ F', OwnK w1 hb (S.set 1 0 ep) F' [(g, o), (w.heap.size, cfgO c)] w' := fun W h => (ctl_store h.own.heap hL.epoch ep (by omega)).mono fun e w' ⟨he, ht⟩ => ⟨he, _, h.turned ht⟩
      have hL2 := hL.at_epoch hR ep
      have hwe : IntKind.u64.wrap ep = ep := by rw [IntKind.wrap_u64]; omega
      have hla2 : (S.set 1 0 ep).last ≤ 61 := by show S.last ≤ 61; omega
      generalize S.set 1 0 ep = S2 at *
      have hmr : m.length ≤ 30 := by omega
      clear hgk hla hml hL
      replace hL2 := Lib.hid hL2
      replace hSt := Lib.hid hSt
      replace hO := Lib.hid hO
      replace hkn := Lib.hid hkn
      replace hst := Lib.hid hst
      replace hks := Lib.hid hks
      replace hm := Lib.hid hm
      replace hkl := Lib.hid hkl
      go_wp2_with fail
      refine (hSt.out _ hO.out).mono ?_; rintro e w4 ⟨rfl, F4, o4⟩
      replace o4 := Lib.hid o4
      clear hSt hO
      go_wp2_with fail
      go_loopw [10] (fun iv wr => AL2 w w1 len c ep hb tx st g o iv wr) (fun i _ => len + 1 - (intOf i).toNat)
      case atStart => exact ⟨0, S2, F4, Nat.zero_le _, rfl, o4.out, hL2.out, hla2⟩
      case round =>
        clear o4 hL2 hla2
        obtain ⟨k2, S, F, hk2, rfl, hO, hL, hla⟩ := hrel
        have mc2 : (w.heap.size, cfgO c) ∈ [(g, o), (w.heap.size, cfgO c)] := by simp
        have hbw : ∀ (W : World) (S : PHeap) (F : Nat → Prop) (K : List (Nat × Obj)), OwnK w1 hb S F K W → Below w.heap.size w W := fun W S F K h => al1_below hz1.out h
        by_cases hlt2 : k2 < len
        · have d3 : decide ((k2 : Int) < (len : Int)) = true := by simpa using hlt2
          have i1 : (0 : Int) ≤ (k2 : Int) := by omega
          have i2 : (k2 : Int) < (len : Int) := by omega
          have hl63 : (k2 : Int) + 1 ≤ 9223372036854775807 := by omega
          obtain ⟨ch, hch⟩ : ∃ ch, ls[k2]? = some ch := ⟨_, List.getElem?_eq_getElem (by rw [hlen.out]; exact hlt2)⟩
          obtain ⟨ad, rfl, hadb, hcl⟩ := hr.out.2 (show 0 < len by omega)
          obtain ⟨q0, -, -⟩ := chL_at ls k2 ch hch
          have hkz := hks.out k2 ch (by rw [hkl.out]; exact hlt2) hch
          obtain ⟨ky, hs, vl⟩ := ch
          simp only at q0 hkz
          have hK8 : ∀ (W : World) (S : PHeap) (F : Nat → Prop) (K : List (Nat × Obj)), (w.heap.size, cfgO c) ∈ K → OwnK w1 hb S F K W → (W.cell? ⟨w.heap.size, 0, none⟩ = some (.int .i64 c.cap) ∧ W.cell? ⟨w.heap.size, 1, none⟩ = some (.int .i64 c.pins) ∧ W.cell? ⟨w.heap.size, 2, none⟩ = some (.int .i64 c.shelves) ∧ W.cell? ⟨w.heap.size, 3, none⟩ = some (.int .i64 c.queue) ∧ W.cell? ⟨w.heap.size, 4, none⟩ = some (.int .i64 c.watchers) ∧ W.cell? ⟨w.heap.size, 5, none⟩ = some (.int .u64 c.seed) ∧ W.cell? (ad.add (k2 * 3)) = some (.string ky)) := fun W S F K hmK h => by
            have hB : Blk W w.heap.size 24 #[.int .i64 c.cap, .int .i64 c.pins, .int .i64 c.shelves, .int .i64 c.queue, .int .i64 c.watchers, .int .u64 c.seed] := (h.keep _ hmK).1
            exact ⟨hB.cell 0, hB.cell 1, hB.cell 2, hB.cell 3, hB.cell 4, hB.cell 5, keepc (hbw _ _ _ _ h) hadb (hcl _ _ q0)⟩
          have sO := hK8 _ _ _ _ mc2 hO
          have hNk := hNw.out (k2 : Int) ky (by omega) (by omega)
          have hF2' := hO.own.heap.own
          have hKl := fun x hx => hO.lt (x := x) hx
          have hBs := hO.own.below.size
          obtain ⟨⟨tk, tv⟩, hgp⟩ : ∃ gp, getP m ky = gp := ⟨_, rfl⟩
          have hans := (hkn.out.ans ky).trans hgp
          have hfive := ans_five hR ky tx st ep
          have hshl := hR.shelves
          clear q0 hcl hch
          replace hbw := Lib.hid hbw
          replace hK8 := Lib.hid hK8
          replace hO := Lib.hid hO
          replace hL := Lib.hid hL
          replace hNk := Lib.hid hNk
          replace hF2' := Lib.hid hF2'
          replace hKl := Lib.hid hKl
          replace hgp := Lib.hid hgp
          replace hans := Lib.hid hans
          go_upto_region 20 with fail
          go_region_held3 (fun W => W.cell? ⟨w.heap.size, 0, none⟩ = some (.int .i64 c.cap) ∧ W.cell? ⟨w.heap.size, 1, none⟩ = some (.int .i64 c.pins) ∧ W.cell? ⟨w.heap.size, 2, none⟩ = some (.int .i64 c.shelves) ∧ W.cell? ⟨w.heap.size, 3, none⟩ = some (.int .i64 c.queue) ∧ W.cell? ⟨w.heap.size, 4, none⟩ = some (.int .i64 c.watchers) ∧ W.cell? ⟨w.heap.size, 5, none⟩ = some (.int .u64 c.seed) ∧ W.cell? (ad.add (k2 * 3)) = some (.string ky))
            (first | assumption | go_keep)
            (first | (go_at_call 12; refine (hNk.out _).mono ?_; rintro e w5 ⟨b, rfl, hR5, hb5⟩; have o5 := (by first | exact hO.out.below hb5 | exact hO.out.drew.below hb5 | exact (hO.out.drewN _).below hb5 : OwnK w1 hb S F [(g, o), (w.heap.size, cfgO c)] w5); have hR5' : RAt readRout wr.heap.size w5 b (newRead c k2 ky) := hR5; have s5 := hK8.out _ _ _ _ (by simp) o5; clear hR5 hb5; replace o5 := Lib.hid o5; replace hR5' := Lib.hid hR5'))
          all_goals
            obtain ⟨-, -, -, -, -, -, r0⟩ := s5
            have hA := fun W (hb' : Below w5.heap.size w5 W) => ralone readRout (o5.out.below hb') (hR5'.out.below hb') hF2'.out hKl.out hBs (by rw [hL.out.faults]; decide) (by omega) 10000 (by decide)
            replace hA := Lib.hid hA
            go_wp2_with fail
            refine (hA.out _ (by first | exact Below.refl _ _ | exact (Below.refl _ _).drew | exact below_drewN (Below.refl _ _) _)).mono ?_; rintro e w6 ⟨xs, S6, s6, F6, D6, hRun, hstop, rfl, o6, hR6, hoff6⟩
            obtain ⟨h1, h2, h3, h4, h5, h6, h7, h8⟩ := read_alone hR (by omega) hL.out (fun _ _ => rfl) 30 (by decide) (fun j => Nat.le_trans (hst.out j) (by omega)) hRun hstop (by omega)
            have hRs := readResult_in hR6.2.2
            have hact6 : (readRout.act s6).2 = false := by show (PRead.act s6).2 = false; rw [PRead.act5 h1]
            rw [show toldC s6 = #[.int .i64 0, .int .i64 0, .int .i64 0, .bool tk, .string tv, .slice none 0 0, .int .i64 0, .slice none 0 0, .int .i64 3, .int .u64 0] from by unfold toldC; rw [if_pos h1, h2, h3, h4, h5, hans.out], h1] at hRs
            rw [hact6]
            have hl6 : S6.last ≤ 61 := by omega
            have d5 : decide ((xs.length : Int) < 5) = false := by simp; omega
            clear hRun hstop hA h1 h2 h3 h4 h5 h7 h8 hact6 hoff6 hR6
            replace h6 := Lib.hid h6
            replace o6 := Lib.hid o6
            replace hRs := Lib.hid hRs
            go_wp2_with fail
            refine (hRs.out).mono ?_; rintro e w7 ⟨rfl, hb7⟩
            have o7 := (o6.out.below hb7).add (.cells #[.int .i64 0, .int .i64 0, .int .i64 0, .bool tk, .string tv, .slice none 0 0, .int .i64 0, .slice none 0 0, .int .i64 3, .int .u64 0] 42)
            obtain ⟨-, -, -, -, -, -, r7⟩ := hK8.out _ _ _ _ (by simp) o7
            have hGt := get_any (cap := cp) ky rfl (by omega) (hm.out.reads (o7.keep (g, o) (by simp)).1).2
            rw [hgp.out] at hGt
            simp only at hGt
            clear hb7 hRs r0
            replace o7 := Lib.hid o7
            replace hGt := Lib.hid hGt
            go_wp2_with fail
            refine (hGt.out).mono ?_; rintro e w8 ⟨rfl, hb8⟩
            have o8 := o7.out.below hb8
            have C8 : Blk w8 w7.heap.size 42 #[.int .i64 0, .int .i64 0, .int .i64 0, .bool tk, .string tv, .slice none 0 0, .int .i64 0, .slice none 0 0, .int .i64 3, .int .u64 0] := (o8.keep _ (List.mem_cons_self ..)).1
            have u0 := C8.cell 0
            have u3 := C8.cell 3
            have u4 := C8.cell 4
            have hbt : (tv.toList == tv.toList) = true := by simp
            clear hb8 hGt C8 r7
            replace o8 := Lib.hid o8
            cases tk with
            | true =>
              go_wp2_with fail
              go_roundw
              case rel => exact ⟨k2 + 1, S6, F6, by omega, by go_num, o8.out.less, h6.out, hl6⟩
              case measure => simp [intOf]; omega
            | false =>
              go_wp2_with fail
              go_roundw
              case rel => exact ⟨k2 + 1, S6, F6, by omega, by go_num, o8.out.less, h6.out, hl6⟩
              case measure => simp [intOf]; omega
        · have d3 : decide ((k2 : Int) < (len : Int)) = false := by simpa using hlt2
          replace hO := Lib.hid hO
          replace hL := Lib.hid hL
          replace hbw := Lib.hid hbw
          have hpins := hR.pins
          go_wp2_with fail
          go_loopw [18] (fun iv wr => AL2 w w1 8 c ep hb tx st g o iv wr) (fun i _ => 9 - (intOf i).toNat)
          case atStart => exact ⟨0, S, F, Nat.zero_le _, rfl, hO.out, hL.out, hla⟩
          case round =>
            clear hO hL hla
            obtain ⟨k3, S, F, hk3, rfl, hO, hL, hla⟩ := hrel
            have hK8 : ∀ (W : World) (S : PHeap) (F : Nat → Prop), OwnK w1 hb S F [(g, o), (w.heap.size, cfgO c)] W → (W.cell? ⟨w.heap.size, 0, none⟩ = some (.int .i64 c.cap) ∧ W.cell? ⟨w.heap.size, 1, none⟩ = some (.int .i64 c.pins) ∧ W.cell? ⟨w.heap.size, 2, none⟩ = some (.int .i64 c.shelves) ∧ W.cell? ⟨w.heap.size, 3, none⟩ = some (.int .i64 c.queue) ∧ W.cell? ⟨w.heap.size, 4, none⟩ = some (.int .i64 c.watchers) ∧ W.cell? ⟨w.heap.size, 5, none⟩ = some (.int .u64 c.seed)) := fun W S F h => by
              have hB : Blk W w.heap.size 24 #[.int .i64 c.cap, .int .i64 c.pins, .int .i64 c.shelves, .int .i64 c.queue, .int .i64 c.watchers, .int .u64 c.seed] := (h.keep _ mc2).1
              exact ⟨hB.cell 0, hB.cell 1, hB.cell 2, hB.cell 3, hB.cell 4, hB.cell 5⟩
            obtain ⟨p0, p1, p2, p3, p4, p5⟩ := hK8 _ _ _ hO
            by_cases hlt3 : (k3 : Int) < c.pins
            · have d4 : decide ((k3 : Int) < c.pins) = true := by simpa using hlt3
              have d5 : decide ((k3 : Int) < 8) = true := by simp; omega
              have hl63 : (k3 : Int) + 1 ≤ 9223372036854775807 := by omega
              have hPn := hPp.out (k3 : Int) ⟨by omega, hlt3⟩
              have hLd : ∀ W, OwnK w1 hb S F [(g, o), (w.heap.size, cfgO c)] W → Calls Try.prog 29 #[.pointer (some ⟨hb, 0, none⟩), .int .u64 1, .int .i64 (3 + (k3 : Int))] W fun e w' => e = .returned (.tuple #[.int .u64 0, .int .i64 0]) ∧ ∃ F', OwnK w1 hb S F' [(g, o), (w.heap.size, cfgO c)] w' := fun W h => by
                have h1 := ctl_load h.own.heap (hL.pins k3 hlt3)
                rw [show ((3 + k3 : Nat) : Int) = 3 + (k3 : Int) by omega] at h1
                exact h1.mono fun e w' ⟨he, ht⟩ => ⟨he, _, h.turned ht⟩
              replace hPn := Lib.hid hPn
              replace hLd := Lib.hid hLd
              replace hO := Lib.hid hO
              replace hL := Lib.hid hL
              replace hK8 := Lib.hid hK8
              go_wp2_with fail
              refine (hPn.out _).mono ?_; rintro e w5 ⟨rfl, hb5⟩
              have o5 := hO.out.below hb5
              clear hb5
              replace o5 := Lib.hid o5
              go_wp2_with fail
              refine (hLd.out _ o5.out).mono ?_; rintro e w6 ⟨rfl, F6, o6⟩
              replace o6 := Lib.hid o6
              go_wp2_with fail
              go_roundw
              case rel => exact ⟨k3 + 1, S, F6, by omega, by go_num, o6.out, hL.out, hla⟩
              case measure => simp [intOf]; omega
            · have d4 : decide ((k3 : Int) < c.pins) = false := by simpa using hlt3
              have hFa : Calls Try.prog 31 #[.pointer (some ⟨hb, 0, none⟩)] wr fun e w' => e = .returned (.int .i64 0) ∧ wr = w' := by
                have h1 := faults_any hO.own.heap
                rw [hL.faults] at h1
                exact h1
              have hw' := hbw.out _ _ _ _ hO
              replace hFa := Lib.hid hFa
              replace hO := Lib.hid hO
              replace hL := Lib.hid hL
              replace hw' := Lib.hid hw'
              clear hK8
              go_wp2_with fail
              refine (hFa.out).mono ?_; rintro e w5 ⟨rfl, rfl⟩
              go_wp2_with fail
              refine (awake26 _).mono ?_; rintro e w7 ⟨rfl, hb7⟩
              go_wp2_with fail
              go_ret
              exact ⟨rfl, Below.next_ hw'.out hb7⟩
theorem walkAlone26 (A : Option Addr) (len cap : Nat) (ls : List PChange) (hlen : ls.length = len) (c : PCfg) (ep : Int) (hep : 0 ≤ ep ∧ ep ≤ 255) (w : World) (hr : Reads w w.heap.size 3 A len (chL ls)) :
    Calls Try.prog 4 #[c.val, .slice A len cap, .int .u8 ep] w fun e w' => e = .returned (.bool true) ∧ Below w.heap.size w w' := by
  by_cases hl : 30 < len
  · exact alongSmall A len cap c ep (.inr hl) w
  cases hright : c.right with
  | false => exact alongSmall A len cap c ep (.inl hright) w
  | true => exact alongWalk A len cap ls hlen (by omega) c ((PCfg.right_iff c).1 hright) ep hep w hr
end Go.Proofs.Ytfelkkbgbgnpaaa
