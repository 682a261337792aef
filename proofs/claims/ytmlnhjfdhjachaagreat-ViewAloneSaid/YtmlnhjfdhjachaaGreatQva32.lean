import Derived.Deep.CutRange
import Derived.Deep.RegionHeld3
import Derived.StillTailTactics
import Derived.Test.YtmlnhjfdhjachaaGreatRows
import Derived.SizedLaws
import Derived.Lib.SmallJoins
import Derived.Deep.Slices
import Derived.Test.YtmlnhjfdhjachaaGreatQva19
import Derived.Test.YtmlnhjfdhjachaaGreatQva31
/-
  The walk over the law of viewing alone (layer 27). No condition.
-/
namespace Go.Proofs.YtmlnhjfdhjachaaGreat
set_option linter.unusedVariables false
open Go.ChangeShapes Go.WideShapes Go.ChangeAt Go.RowKit
open Go.ChangeMaps (setBlock)

theorem nextP_rises {m : List (ByteArray × ByteArray)} (h : Rises m) (ch : PChange) (le : Bool) : Rises (nextP m ch le) := by
  unfold nextP
  split
  · split
    · exact put_rises _ _ h
    · exact del_rises _ h
  · exact h
theorem nodup_lt : ∀ (n : Nat) (l : List Nat), l.Nodup → (∀ x ∈ l, x < n) → l.length ≤ n
  | 0, l, _, h => by
    cases l with
    | nil => exact Nat.le_refl _
    | cons x l => exact absurd (h x (List.mem_cons_self ..)) (by omega)
  | n + 1, l, hn, h => by
    have h1 := nodup_lt n (l.erase n) (hn.erase n) fun x hx => by
      have h2 := (hn.mem_erase_iff).1 hx
      have := h x h2.2
      omega
    have h3 : l.length ≤ (l.erase n).length + 1 := by
      rw [List.length_erase]
      split <;> omega
    omega
theorem len_last {w : World} {hb : Nat} {S : PHeap} {F : Nat → Prop} (h : HeapIn w hb S F) (n : Nat) (hl : S.last ≤ n) (hn : n ≤ 99999 := by decide) : S.blocks.length ≤ 100000 := by
  have h1 : ((S.blocks.map (·.key)).map Int.toNat).Nodup := by
    rw [List.nodup_iff_pairwise_ne, List.pairwise_map]
    refine (List.nodup_iff_pairwise_ne.1 h.keys).imp_of_mem fun {a b} ha hb hab he => ?_
    obtain ⟨x, hx, rfl⟩ := List.mem_map.1 ha
    obtain ⟨y, hy, rfl⟩ := List.mem_map.1 hb
    have := (h.span x hx).1
    have := (h.span y hy).1
    exact hab (by omega)
  have h2 := nodup_lt (n + 1) _ h1 fun x hx => by
    obtain ⟨k, hk, rfl⟩ := List.mem_map.1 hx
    obtain ⟨y, hy, rfl⟩ := List.mem_map.1 hk
    have := h.span y hy
    omega
  simp only [List.length_map] at h2
  omega
theorem own_shapeU {W : World} {base n : Nat} {v : Value} {xs : List Value} (h : W.ownsRow base 22 1 v n xs) : (∃ A c, v = .slice A n c) ∧ True := by
  rcases h.2 with ⟨rfl, rfl⟩ | ⟨g, cap, _, rfl, hb, _⟩
  · exact ⟨⟨none, 0, rfl⟩, trivial⟩
  · exact ⟨⟨_, cap, rfl⟩, trivial⟩
theorem own_keep {W : World} {base n : Nat} {v : Value} {xs : List Value} (h : W.ownsRow base 90 2 v n xs) : ∃ Kr : List (Nat × Obj), (∀ x ∈ Kr, W.heap[x.1]? = some x.2 ∧ base ≤ x.1) ∧ ∀ W' : World, (∀ x ∈ Kr, W'.heap[x.1]? = some x.2) → W'.ownsRow base 90 2 v n xs := by
  rcases h.2 with ⟨rfl, rfl⟩ | ⟨g, cap, cur, e1, e2, e3, r⟩
  · exact ⟨[], fun x hx => (by cases hx), fun W' _ => ⟨h.1, .inl ⟨rfl, rfl⟩⟩⟩
  · exact ⟨[(g, .cells cur 90)], fun x hx => by rw [List.mem_singleton.1 hx]; exact ⟨e3, e2⟩, fun W' hW => ⟨h.1, .inr ⟨g, cap, cur, e1, e2, hW _ (List.mem_singleton.2 rfl), r⟩⟩⟩
theorem OwnK.join {w0 w : World} {hb : Nat} {S : PHeap} {F : Nat → Prop} {K Kr : List (Nat × Obj)} (h : OwnK w0 hb S F K w) (hr : ∀ x ∈ Kr, w.heap[x.1]? = some x.2 ∧ ¬ F x.1) : OwnK w0 hb S F (Kr ++ K) w := ⟨h.own, fun x hx => by
  rcases List.mem_append.1 hx with hx | hx
  · exact hr x hx
  · exact h.keep x hx⟩
theorem blocks_ownK {w1 W0 : World} {hb : Nat} {S : PHeap} {F : Nat → Prop} {K : List (Nat × Obj)} (o : OwnK w1 hb S F K W0) (hl : S.last ≤ 100) : ∀ W, OwnK w1 hb S F K W → Calls Tryz.prog 25 #[.pointer (some ⟨hb, 0, none⟩)] W fun e w' => ∃ v, e = .returned v ∧ w'.ownsRow W.heap.size 22 1 v S.blocks.length (S.sorted.map (Value.int .u64)) ∧ Below W.heap.size W w' :=
  fun W h => blocks_any h.own.heap (len_last h.own.heap 100 (by omega))
theorem load_ownK {w1 W0 : World} {hb : Nat} {S : PHeap} {F : Nat → Prop} {K : List (Nat × Obj)} {c : PCfg} {tx : Nat → Option ByteArray} {st : Nat → List PVersion} {e : Int} (o : OwnK w1 hb S F K W0) (hL : Laid S c tx st (fun _ => 0) e) (k : Nat) (hk : (k : Int) < c.pins) : ∀ W F', OwnK w1 hb S F' K W → Calls Tryz.prog 27 #[.pointer (some ⟨hb, 0, none⟩), .int .u64 1, .int .i64 (3 + (k : Int))] W fun e w' => e = .returned (.tuple #[.int .u64 0, .int .i64 0]) ∧ ∃ F', OwnK w1 hb S F' K w' := fun W F' h => by
  have h1 := ctl_load h.own.heap (hL.pins k hk)
  rw [show ((3 + k : Nat) : Int) = 3 + (k : Int) by omega] at h1
  exact h1.mono fun e w' ⟨he, ht⟩ => ⟨he, _, h.turned ht⟩
theorem faults_ownK {w1 W0 : World} {hb : Nat} {S : PHeap} {F : Nat → Prop} {K : List (Nat × Obj)} (o : OwnK w1 hb S F K W0) (hf : S.faults = 0) : ∀ W, OwnK w1 hb S F K W → Calls Tryz.prog 30 #[.pointer (some ⟨hb, 0, none⟩)] W fun e w' => e = .returned (.int .i64 0) ∧ W = w' :=
  fun W h => by
    have h1 := faults_any h.own.heap
    rw [hf] at h1
    exact h1
/-- Between two rounds of the first loop. -/
def AV1 (w w1 : World) (len : Nat) (ls : List PChange) (c : PCfg) (ep : Int) (hb : Nat) (mv iv : Value) (wr : World) : Prop :=
  ∃ (k : Nat) (S : PHeap) (F : Nat → Prop) (tx : Nat → Option ByteArray) (st : Nat → List PVersion) (m : List (ByteArray × ByteArray)) (g : Nat) (o : Obj), k ≤ len ∧ iv = .int .i64 k ∧ PRow mv g o m ∧ OwnK w1 hb S F [(g, o), (w.heap.size, cfgO c)] wr ∧ Laid S c tx st (fun _ => 0) 0 ∧ S.last ≤ 1 + 2 * k ∧ (∀ j, (st j).length ≤ k) ∧ Know c tx st ep m ∧ m.length ≤ k ∧ w1.heap.size ≤ g ∧ Rises m
/-- Between two acts. -/
def AV2 (w w1 : World) (c : PCfg) (ep : Int) (hb g : Nat) (o : Obj) (S0 : PHeap) (b : Nat) (iv : Value) (wr : World) : Prop :=
  ∃ (n : Nat) (xs : List (PAct × PGot)) (S : PHeap) (F : Nat → Prop) (s : PView), n ≤ 10000 ∧ iv = .int .i64 n ∧ Duo viewRout w1 hb S F [(g, o), (w.heap.size, cfgO c)] b s wr ∧ Runs viewRout S0 (newView c ep) xs S s ∧ xs.length = n
/-- Between two pins. -/
def AV3 (w1 : World) (hb : Nat) (S : PHeap) (c : PCfg) (ep : Int) (tx : Nat → Option ByteArray) (st : Nat → List PVersion) (K : List (Nat × Obj)) (iv : Value) (wr : World) : Prop :=
  ∃ (k : Nat) (F : Nat → Prop), k ≤ 8 ∧ iv = .int .i64 k ∧ OwnK w1 hb S F K wr
set_option maxRecDepth 100000 in
theorem valongSmall (A : Option Addr) (len cap : Nat) (c : PCfg) (ep : Int) (hbad : c.right = false ∨ 30 < len) (w : World) :
    Calls Tryz.prog 5 #[c.val, .slice A len cap, .int .u8 ep] w fun e w' => e = .returned (.bool true) ∧ Below w.heap.size w w' := by
  have hCV : c.val = .agg #[.int .i64 c.cap, .int .i64 c.pins, .int .i64 c.shelves, .int .i64 c.queue, .int .i64 c.watchers, .int .u64 c.seed] := rfl
  have hRR := fun W => right_cfg c W
  have hz : Below w.heap.size w (w.alloc (.cells #[.int .i64 c.cap, .int .i64 c.pins, .int .i64 c.shelves, .int .i64 c.queue, .int .i64 c.watchers, .int .u64 c.seed] 24)) := (Below.refl _ _).alloc (Nat.le_refl _) _
  have B0 := Blk.new w 24 #[.int .i64 c.cap, .int .i64 c.pins, .int .i64 c.shelves, .int .i64 c.queue, .int .i64 c.watchers, .int .u64 c.seed]
  have hcs : c.right = false ∨ (c.right = true ∧ 30 < len) := by
    rcases hbad with h | h
    · exact .inl h
    · cases c.right with
      | false => exact .inl rfl
      | true => exact .inr ⟨rfl, h⟩
  rw [hCV] at hRR ⊢
  clear hCV hbad
  generalize c.right = rt at *
  replace hRR := Lib.hid hRR
  replace hz := Lib.hid hz
  replace B0 := Lib.hid B0
  rcases hcs with rfl | ⟨rfl, hl⟩
  · go_enter Tryz.func5, Tryz.ntmps5
    go_wp2_with fail
    refine (hRR.out _).mono ?_; rintro e w1 ⟨rfl, hb1⟩
    go_wp2_with fail
    refine (awake27 _).mono ?_; rintro e w7 ⟨rfl, hb7⟩
    go_wp2_with fail
    go_ret
    have h1 := nx hz.out (Nat.le_refl _) hb1
    exact ⟨rfl, h1.trans (hb7.mono h1.size)⟩
  · have d1 : decide ((30 : Int) < (len : Int)) = true := by simp; omega
    go_enter Tryz.func5, Tryz.ntmps5
    go_wp2_with fail
    refine (hRR.out _).mono ?_; rintro e w1 ⟨rfl, hb1⟩
    go_wp2_with fail
    refine (awake27 _).mono ?_; rintro e w7 ⟨rfl, hb7⟩
    go_wp2_with fail
    go_ret
    have h1 := nx hz.out (Nat.le_refl _) hb1
    exact ⟨rfl, h1.trans (hb7.mono h1.size)⟩
set_option maxRecDepth 100000 in
set_option maxHeartbeats 8000000 in
theorem valongWalk (A : Option Addr) (len cap : Nat) (ls : List PChange) (hlen : ls.length = len) (hl30 : len ≤ 30) (c : PCfg) (hR : c.Right) (ep : Int) (hep : 0 ≤ ep ∧ ep ≤ 255) (w : World) (hr : Reads w w.heap.size 3 A len (chL ls)) :
    Calls Tryz.prog 5 #[c.val, .slice A len cap, .int .u8 ep] w fun e w' => e = .returned (.bool true) ∧ Below w.heap.size w w' := by
  have hCV : c.val = .agg #[.int .i64 c.cap, .int .i64 c.pins, .int .i64 c.shelves, .int .i64 c.queue, .int .i64 c.watchers, .int .u64 c.seed] := rfl
  have hRR := fun W => right_cfg c W
  rw [(PCfg.right_iff c).2 hR] at hRR
  have hz : Below w.heap.size w (w.alloc (.cells #[.int .i64 c.cap, .int .i64 c.pins, .int .i64 c.shelves, .int .i64 c.queue, .int .i64 c.watchers, .int .u64 c.seed] 24)) := (Below.refl _ _).alloc (Nat.le_refl _) _
  have B0 := Blk.new w 24 #[.int .i64 c.cap, .int .i64 c.pins, .int .i64 c.shelves, .int .i64 c.queue, .int .i64 c.watchers, .int .u64 c.seed]
  have hFd := fun W => field_any c hR W
  have hNw := fun W => viewNew_at c ep (by omega) W
  have hPp : ∀ (p : Int), 0 ≤ p ∧ p < c.pins → ∀ W, _ := fun p hp W => planPin_any c hR p hp W
  have d1 : decide ((30 : Int) < (len : Int)) = false := by simp; omega
  rw [hCV] at hRR hFd hNw hPp ⊢
  clear hCV
  replace hRR := Lib.hid hRR
  replace hFd := Lib.hid hFd
  replace hNw := Lib.hid hNw
  replace hPp := Lib.hid hPp
  replace hr := Lib.hid hr
  replace hz := Lib.hid hz
  replace B0 := Lib.hid B0
  replace hlen := Lib.hid hlen
  go_enter Tryz.func5, Tryz.ntmps5
  go_wp2_with fail
  refine (hRR.out _).mono ?_; rintro e w1 ⟨rfl, hb1⟩
  have C1 := B0.out.below hb1 (by simp)
  have hz1 := nx hz.out (Nat.le_refl _) hb1
  have c0 := C1.cell 0
  have c1 := C1.cell 1
  have c2 := C1.cell 2
  have c3 := C1.cell 3
  have c4 := C1.cell 4
  have c5 := C1.cell 5
  clear hb1
  replace C1 := Lib.hid C1
  replace hz1 := Lib.hid hz1
  go_wp2_with fail
  refine (hFd.out _).mono ?_; rintro e w2 ⟨hb, r, rfl, s2⟩
  obtain ⟨F2, o2⟩ := Own.of_sess s2
  have hF2 := o2.heap.own
  have hcw := C1.out.lt
  have k2 : OwnK w1 hb (fieldS c r) F2 [(w.heap.size, cfgO c)] w2 := ⟨o2, fun x hx => by
    rw [List.mem_singleton.1 hx]
    exact ⟨C1.out.below o2.below hcw, fun h => by have := o2.new _ h; simp only at this; omega⟩⟩
  have k3 := k2.add (.cells #[] 90)
  have hg := o2.below.size
  clear s2 o2 k2 c0 c1 c2 c3 c4 c5
  replace k3 := Lib.hid k3
  go_wp2_with fail
  go_loopw [8, 9] (fun mv iv wr => AV1 w w1 len ls c ep hb mv iv wr) (fun _ i _ => len + 1 - (intOf i).toNat)
  case atStart => exact ⟨0, _, F2, _, _, [], _, _, Nat.zero_le _, rfl, PRow.nil _, k3.out, field_laid c hR r, by show (1 : Int) ≤ _; omega, fun _ => Nat.le_refl _, know_none c ep, Nat.le_refl _, hg, rises_nil⟩
  case round =>
    clear k3
    obtain ⟨k, S, F, tx, st, m, g, o, hk, rfl, hm, hO, hL, hla, hst, hkn, hml, hgw, hrs⟩ := hrel
    obtain ⟨cp, rfl⟩ := hm.slice
    have mc : (w.heap.size, cfgO c) ∈ [(g, o), (w.heap.size, cfgO c)] := by simp
    have hgk := hm.reads (hO.keep _ (List.mem_cons_self ..)).1
    by_cases hlt : k < len
    · have d2 : decide ((k : Int) < (len : Int)) = true := by simpa using hlt
      have i1 : (0 : Int) ≤ (k : Int) := by omega
      have i2 : (k : Int) < (len : Int) := by omega
      have hl63 : (k : Int) + 1 ≤ 9223372036854775807 := by omega
      obtain ⟨ch, hch⟩ : ∃ ch, ls[k]? = some ch := ⟨_, List.getElem?_eq_getElem (by rw [hlen.out]; exact hlt)⟩
      obtain ⟨ad, rfl, hadb, hcl⟩ := hr.out.2 (show 0 < len by omega)
      obtain ⟨q0, q1, q2⟩ := chL_at ls k ch hch
      obtain ⟨ky, hs, vl⟩ := ch
      simp only at q0 q1 q2
      have hbw : ∀ (W : World) (S : PHeap) (F : Nat → Prop) (K : List (Nat × Obj)), OwnK w1 hb S F K W → Below w.heap.size w W := fun W S F K h => al1_below hz1.out h
      have hK8 : ∀ (W : World) (S : PHeap) (F : Nat → Prop) (K : List (Nat × Obj)), (w.heap.size, cfgO c) ∈ K → OwnK w1 hb S F K W → (W.cell? ⟨w.heap.size, 0, none⟩ = some (.int .i64 c.cap) ∧ W.cell? ⟨w.heap.size, 1, none⟩ = some (.int .i64 c.pins) ∧ W.cell? ⟨w.heap.size, 2, none⟩ = some (.int .i64 c.shelves) ∧ W.cell? ⟨w.heap.size, 3, none⟩ = some (.int .i64 c.queue) ∧ W.cell? ⟨w.heap.size, 4, none⟩ = some (.int .i64 c.watchers) ∧ W.cell? ⟨w.heap.size, 5, none⟩ = some (.int .u64 c.seed) ∧ W.cell? (ad.add (k * 3)) = some (.string ky) ∧ W.cell? ⟨(ad.add (k * 3)).block, (ad.add (k * 3)).off + 1, none⟩ = some (.bool hs) ∧ W.cell? ⟨(ad.add (k * 3)).block, (ad.add (k * 3)).off + 2, none⟩ = some (.string vl)) := fun W S F K hmK h => by
        have hB : Blk W w.heap.size 24 #[.int .i64 c.cap, .int .i64 c.pins, .int .i64 c.shelves, .int .i64 c.queue, .int .i64 c.watchers, .int .u64 c.seed] := (h.keep _ hmK).1
        refine ⟨hB.cell 0, hB.cell 1, hB.cell 2, hB.cell 3, hB.cell 4, hB.cell 5, keepc (hbw _ _ _ _ h) hadb (hcl _ _ q0), ?_, ?_⟩
        · have e : (⟨(ad.add (k * 3)).block, (ad.add (k * 3)).off + 1, none⟩ : Addr) = (ad.add (k * 3)).add 1 := rfl
          rw [e, add_of_add]
          exact keepc (hbw _ _ _ _ h) hadb (hcl _ _ q1)
        · have e : (⟨(ad.add (k * 3)).block, (ad.add (k * 3)).off + 2, none⟩ : Addr) = (ad.add (k * 3)).add 2 := rfl
          rw [e, add_of_add]
          exact keepc (hbw _ _ _ _ h) hadb (hcl _ _ q2)
      have sO := hK8 _ _ _ _ mc hO
      have hw' := hbw _ _ _ _ hO
      clear q0 q1 q2 hcl
      replace hbw := Lib.hid hbw
      replace hK8 := Lib.hid hK8
      replace hw' := Lib.hid hw'
      replace hch := Lib.hid hch
      replace hO := Lib.hid hO
      replace hL := Lib.hid hL
      replace hkn := Lib.hid hkn
      replace hst := Lib.hid hst
      replace hrs := Lib.hid hrs
      replace hm := Lib.hid hm
      replace hgk := Lib.hid hgk
      by_cases hkb : 100 < ky.size
      · have d3 : decide ((100 : Int) < (ky.size : Int)) = true := by simp; omega
        obtain ⟨-, -, -, -, -, -, r0, r1, r2⟩ := sO
        go_upto_region 8 with fail
        go_quiet (fail)
        go_wp2_with fail
        refine (awake27 _).mono ?_; rintro e w7 ⟨rfl, hb7⟩
        go_wp2_with fail
        go_ret
        exact ⟨rfl, Below.next_ (below_drewN hw'.out _) hb7⟩
      have d3 : decide ((100 : Int) < (ky.size : Int)) = false := by simp; omega
      by_cases hvb : 200 < vl.size
      · have d4 : decide ((200 : Int) < (vl.size : Int)) = true := by simp; omega
        obtain ⟨-, -, -, -, -, -, r0, r1, r2⟩ := sO
        go_upto_region 8 with fail
        go_quiet (fail)
        go_wp2_with fail
        refine (awake27 _).mono ?_; rintro e w7 ⟨rfl, hb7⟩
        go_wp2_with fail
        go_ret
        exact ⟨rfl, Below.next_ (below_drewN hw'.out _) hb7⟩
      have d4 : decide ((200 : Int) < (vl.size : Int)) = false := by simp; omega
      have hLy : ∀ W, OwnK w1 hb S F [(g, o), (w.heap.size, cfgO c)] W → Calls Tryz.prog 17 _ W _ := fun W h => lay_any (key := ky) (value := vl) (has := hs) (ep := (k : Int)) hR h hL.out (by omega) (by omega) (by omega) ⟨by omega, by omega⟩
      have hwk : IntKind.u64.wrap (k : Int) = (k : Int) := by rw [IntKind.wrap_u64]; omega
      replace hLy := Lib.hid hLy
      go_upto_region 8 with fail
      go_region_held3 (fun W => W.cell? ⟨w.heap.size, 0, none⟩ = some (.int .i64 c.cap) ∧ W.cell? ⟨w.heap.size, 1, none⟩ = some (.int .i64 c.pins) ∧ W.cell? ⟨w.heap.size, 2, none⟩ = some (.int .i64 c.shelves) ∧ W.cell? ⟨w.heap.size, 3, none⟩ = some (.int .i64 c.queue) ∧ W.cell? ⟨w.heap.size, 4, none⟩ = some (.int .i64 c.watchers) ∧ W.cell? ⟨w.heap.size, 5, none⟩ = some (.int .u64 c.seed) ∧ W.cell? (ad.add (k * 3)) = some (.string ky) ∧ W.cell? ⟨(ad.add (k * 3)).block, (ad.add (k * 3)).off + 1, none⟩ = some (.bool hs) ∧ W.cell? ⟨(ad.add (k * 3)).block, (ad.add (k * 3)).off + 2, none⟩ = some (.string vl))
        (first | assumption | go_keep)
        (first | (go_at_call 17; refine (hLy.out _ (by first | exact hO.out | exact hO.out.drew | exact hO.out.drewN _)).mono ?_; rintro e w5 ⟨S5, F5, ok, tx5, st5, rfl, o5, hok⟩; have s5 := hK8.out _ _ _ _ (by simp) o5; replace o5 := Lib.hid o5; replace hok := Lib.hid hok))
      all_goals
        obtain ⟨-, -, -, -, -, -, r0, r1, r2⟩ := s5
        obtain ⟨no, hno⟩ : ∃ no, no = !ok := ⟨_, rfl⟩
        rw [← hno]
        cases ok with
        | false =>
          obtain rfl : no = true := hno
          have hw' := hbw.out _ _ _ _ o5.out
          clear hok
          go_wp2_with fail
          refine (awake27 _).mono ?_; rintro e w7 ⟨rfl, hb7⟩
          go_wp2_with fail
          go_ret
          first | exact ⟨rfl, Below.next_ hw' hb7⟩ | exact ⟨rfl, Below.next_ hw'.drew hb7⟩ | exact ⟨rfl, Below.next_ (below_drewN hw' _) hb7⟩
        | true =>
          obtain rfl : no = false := hno
          obtain ⟨hL5, hla5, hln5, hkn5⟩ := hok.out rfl
          have hwe : IntKind.i64.wrap ep = ep := IntWalk.i64_in _ (by omega)
          clear hok
          replace hL5 := Lib.hid hL5
          replace hln5 := Lib.hid hln5
          replace hkn5 := Lib.hid hkn5
          by_cases hle : ep < k
          · have d5 : decide (ep < (k : Int)) = true := by simpa using hle
            go_wp2_with fail
            go_roundw
            case rel =>
              have oE := (by first | exact o5.out | exact o5.out.drew | exact o5.out.drewN _ : OwnK w1 hb S5 F5 [(g, o), (w.heap.size, cfgO c)] _)
              exact ⟨k + 1, S5, F5, tx5, st5, m, g, o, by omega, by go_num, hm.out, oE, hL5.out, by omega, fun j => Nat.le_trans (hln5.out j) (Nat.succ_le_succ (hst.out j)), hkn5.out ep m m hkn.out (fun t => by rw [if_neg (fun h => by omega)]), by omega, hgw, hrs.out⟩
            case measure => simp [intOf]; omega
          · have d5 : decide (ep < (k : Int)) = false := by simpa using hle
            have hnx := nextP_get m ⟨ky, hs, vl⟩ true
            have hnl := nextP_len m ⟨ky, hs, vl⟩ true
            have hkn6 := hkn5.out ep m (nextP m ⟨ky, hs, vl⟩ true) hkn.out (fun t => by
              rw [hnx t]
              by_cases ht : t = ky
              · simp [ht]
                omega
              · simp [ht])
            clear hnx
            replace hkn6 := Lib.hid hkn6
            cases hs with
            | true =>
              have hPt : ∀ W, OwnK w1 hb S5 F5 [(g, o), (w.heap.size, cfgO c)] W → Calls Tryz.prog 23 _ W _ := fun W h => put_any (cap := cp) ky vl rfl (by omega) (hm.out.reads (h.keep _ (List.mem_cons_self ..)).1).2
              have hK9 : ∀ W, OwnK w1 hb S5 F5 [(g, o), (w.heap.size, cfgO c)] W → (W.cell? (ad.add (k * 3)) = some (.string ky) ∧ W.cell? ⟨(ad.add (k * 3)).block, (ad.add (k * 3)).off + 1, none⟩ = some (.bool true) ∧ W.cell? ⟨(ad.add (k * 3)).block, (ad.add (k * 3)).off + 2, none⟩ = some (.string vl)) := fun W h => (hK8.out _ _ _ _ (by simp) h).2.2.2.2.2.2
              replace hPt := Lib.hid hPt
              replace hK9 := Lib.hid hK9
              go_upto_region 12 with fail
              go_region_held3 (fun W => W.cell? (ad.add (k * 3)) = some (.string ky) ∧ W.cell? ⟨(ad.add (k * 3)).block, (ad.add (k * 3)).off + 1, none⟩ = some (.bool true) ∧ W.cell? ⟨(ad.add (k * 3)).block, (ad.add (k * 3)).off + 2, none⟩ = some (.string vl))
                (first | assumption | go_keep)
                (first | (go_at_call 23; refine (hPt.out _ (by first | exact o5.out | exact o5.out.drew | exact o5.out.drewN _)).mono ?_; rintro e w6 ⟨v6, g6, o6, rfl, hp6, hg6, hge6, hb6⟩; have oE := (by first | exact o5.out.row hb6 hg6 hge6 | exact o5.out.drew.row hb6 hg6 hge6 | exact (o5.out.drewN _).row hb6 hg6 hge6 : OwnK w1 hb S5 F5 [(g6, o6), (w.heap.size, cfgO c)] w6); have s6 := (hK8.out _ _ _ _ (by simp) oE).2.2.2.2.2.2; have hgw6 : w1.heap.size ≤ g6 := Nat.le_trans o5.out.own.below.size hge6; replace oE := Lib.hid oE; replace hp6 := Lib.hid hp6; clear hg6 hge6 hb6))
              all_goals
                obtain ⟨cp6, rfl⟩ := hp6.out.slice
                go_wp2_with fail
                go_roundw
                case rel =>
                  have oF := (by first | exact oE.out | exact oE.out.drew | exact oE.out.drewN _ : OwnK w1 hb S5 F5 [(g6, o6), (w.heap.size, cfgO c)] _)
                  exact ⟨k + 1, S5, F5, tx5, st5, nextP m ⟨ky, true, vl⟩ true, g6, o6, by omega, by go_num, hp6.out, oF, hL5.out, by omega, fun j => Nat.le_trans (hln5.out j) (Nat.succ_le_succ (hst.out j)), hkn6.out, by omega, hgw6, nextP_rises hrs.out _ _⟩
                case measure => simp [intOf]; omega
            | false =>
              have hDl : ∀ W, OwnK w1 hb S5 F5 [(g, o), (w.heap.size, cfgO c)] W → Calls Tryz.prog 24 _ W _ := fun W h => del_any (cap := cp) ky rfl (by omega) (hm.out.reads (h.keep _ (List.mem_cons_self ..)).1).2
              replace hDl := Lib.hid hDl
              go_wp2_with fail
              refine (hDl.out _ (by first | exact o5.out | exact o5.out.drew | exact o5.out.drewN _)).mono ?_; rintro e w6 ⟨v6, g6, o6, rfl, hp6, hg6, hge6, hb6⟩
              have oE := (by first | exact o5.out.row hb6 hg6 hge6 | exact o5.out.drew.row hb6 hg6 hge6 | exact (o5.out.drewN _).row hb6 hg6 hge6 : OwnK w1 hb S5 F5 [(g6, o6), (w.heap.size, cfgO c)] w6)
              have hgw6 : w1.heap.size ≤ g6 := Nat.le_trans o5.out.own.below.size hge6
              clear hg6 hge6 hb6
              replace oE := Lib.hid oE
              replace hp6 := Lib.hid hp6
              obtain ⟨cp6, rfl⟩ := hp6.out.slice
              go_wp2_with fail
              go_roundw
              case rel =>
                have oF := (by first | exact oE.out | exact oE.out.drew | exact oE.out.drewN _ : OwnK w1 hb S5 F5 [(g6, o6), (w.heap.size, cfgO c)] _)
                exact ⟨k + 1, S5, F5, tx5, st5, nextP m ⟨ky, false, vl⟩ true, g6, o6, by omega, by go_num, hp6.out, oF, hL5.out, by omega, fun j => Nat.le_trans (hln5.out j) (Nat.succ_le_succ (hst.out j)), hkn6.out, by omega, hgw6, nextP_rises hrs.out _ _⟩
              case measure => simp [intOf]; omega
    · have d2 : decide ((k : Int) < (len : Int)) = false := by simpa using hlt
      have hSt : ∀ W, OwnK w1 hb S F [(g, o), (w.heap.size, cfgO c)] W → Calls Tryz.prog 18 #[.pointer (some ⟨hb, 0, none⟩), .int .u64 1, .int .i64 0, .int .u64 ep] W fun e w' => e = .returned (.int .i64 0) ∧ ∃ F', OwnK w1 hb (S.set 1 0 ep) F' [(g, o), (w.heap.size, cfgO c)] w' := fun W h => (ctl_store h.own.heap hL.epoch ep (by omega)).mono fun e w' ⟨he, ht⟩ => ⟨he, _, h.turned ht⟩
      have hL2 := hL.at_epoch hR ep
      have hwe : IntKind.u64.wrap ep = ep := by rw [IntKind.wrap_u64]; omega
      have hwe2 : IntKind.i64.wrap ep = ep := IntWalk.i64_in _ (by omega)
      have hla2 : (S.set 1 0 ep).last ≤ 61 := by show S.last ≤ 61; omega
      generalize S.set 1 0 ep = S2 at *
      have hmr : m.length ≤ 30 := by omega
      have hst30 : ∀ j, (st j).length ≤ 30 := fun j => Nat.le_trans (hst j) (by omega)
      have hsi := seen_is hR hkn hrs
      have hshl := hR.shelves
      clear hgk hla hml hL hst
      replace hL2 := Lib.hid hL2
      replace hSt := Lib.hid hSt
      replace hO := Lib.hid hO
      replace hkn := Lib.hid hkn
      replace hrs := Lib.hid hrs
      replace hm := Lib.hid hm
      replace hsi := Lib.hid hsi
      replace hst30 := Lib.hid hst30
      replace hshl := Lib.hid hshl
      go_wp2_with fail
      refine (hSt.out _ hO.out).mono ?_; rintro e w4 ⟨rfl, F4, o4⟩
      have hBk := blocks_any o4.own.heap (len_last o4.own.heap 100 (by omega))
      obtain ⟨nb, hnb⟩ : ∃ nb, S2.blocks.length = nb := ⟨_, rfl⟩
      rw [hnb] at hBk
      replace o4 := Lib.hid o4
      replace hBk := Lib.hid hBk
      replace hnb := Lib.hid hnb
      clear hSt hO
      go_wp2_with fail
      refine (hBk.out).mono ?_; rintro e w5 ⟨bv, rfl, hbo, hb5⟩
      obtain ⟨⟨bA, bc, rfl⟩, _⟩ := own_shapeU hbo
      have o5 := o4.out.below hb5
      have hF5 := o5.own.heap.own
      have hKl := fun x hx => o5.lt (x := x) hx
      have hBs := o5.own.below.size
      have mc2 : (w.heap.size, cfgO c) ∈ [(g, o), (w.heap.size, cfgO c)] := by simp
      have hbw : ∀ (W : World) (S : PHeap) (F : Nat → Prop) (K : List (Nat × Obj)), OwnK w1 hb S F K W → Below w.heap.size w W := fun W S F K h => al1_below hz1.out h
      have hKc : ∀ (W : World) (S : PHeap) (F : Nat → Prop) (K : List (Nat × Obj)), (w.heap.size, cfgO c) ∈ K → OwnK w1 hb S F K W → (W.cell? ⟨w.heap.size, 0, none⟩ = some (.int .i64 c.cap) ∧ W.cell? ⟨w.heap.size, 1, none⟩ = some (.int .i64 c.pins) ∧ W.cell? ⟨w.heap.size, 2, none⟩ = some (.int .i64 c.shelves) ∧ W.cell? ⟨w.heap.size, 3, none⟩ = some (.int .i64 c.queue) ∧ W.cell? ⟨w.heap.size, 4, none⟩ = some (.int .i64 c.watchers) ∧ W.cell? ⟨w.heap.size, 5, none⟩ = some (.int .u64 c.seed)) := fun W S F K hmK h => by
        have hB : Blk W w.heap.size 24 #[.int .i64 c.cap, .int .i64 c.pins, .int .i64 c.shelves, .int .i64 c.queue, .int .i64 c.watchers, .int .u64 c.seed] := (h.keep _ hmK).1
        exact ⟨hB.cell 0, hB.cell 1, hB.cell 2, hB.cell 3, hB.cell 4, hB.cell 5⟩
      obtain ⟨p0, p1, p2, p3, p4, p5⟩ := hKc _ _ _ _ (by simp) o5
      clear hbo hb5 hBk
      replace o5 := Lib.hid o5
      replace hF5 := Lib.hid hF5
      replace hKl := Lib.hid hKl
      replace hbw := Lib.hid hbw
      replace hKc := Lib.hid hKc
      go_wp2_with fail
      refine (hNw.out _).mono ?_; rintro e w6 ⟨b, rfl, hR6, hb6⟩
      have hD6 : Duo viewRout w1 hb S2 F4 [(g, o), (w.heap.size, cfgO c)] b (newView c ep) w6 := Duo.start (o5.out.below hb6) hR6 hF5.out hKl.out hBs
      clear hR6 hb6 p0 p1 p2 p3 p4 p5
      replace hD6 := Lib.hid hD6
      go_wp2_with fail
      go_loopw [12] (fun iv wr => AV2 w w1 c ep hb g o S2 b iv wr) (fun i _ => 10001 - (intOf i).toNat)
      case atStart => exact ⟨0, [], S2, F4, _, Nat.zero_le _, rfl, hD6.out, ⟨rfl, rfl⟩, rfl⟩
      case round =>
        clear hD6
        obtain ⟨n, xs, S, F, s, hn, rfl, hD, hRun, hxl⟩ := hrel
        by_cases hlt2 : n < 10000
        · have d3 : decide ((n : Int) < 10000) = true := by simp; omega
          have hl63 : (n : Int) + 1 ≤ 9223372036854775807 := by omega
          have hbd := Runs.bounds viewRout hRun
          have hft := hL2.out.faults
          have hNx := hD.next2 (by omega) (by omega)
          replace hD := Lib.hid hD
          replace hRun := Lib.hid hRun
          replace hNx := Lib.hid hNx
          replace hxl := Lib.hid hxl
          clear hbd hft
          go_wp2_with fail
          refine (hNx.out).mono ?_; rintro e w7 ⟨⟨xk, xb, xc, xo, xn, xt⟩, ⟨gw, gt⟩, is, S7, F7, s7, rfl, hD7, hka, hdid⟩
          rw [show stepV 0 ⟨xk, xb, xc, xo, xn, xt⟩ ⟨gw, gt⟩ = .agg #[.int .i64 0, .int .i64 xk, .int .u64 xb, .int .i64 xc, .int .u64 xo, .int .u64 xn, .string xt, .int .u64 gw, .string gt] from rfl]
          cases is with
          | false =>
            obtain ⟨hcan, rfl, rfl⟩ : viewRout.can S s = false ∧ S7 = S ∧ s7 = s := by
              rcases hdid with ⟨_, h1, h2, h3⟩ | ⟨h, _⟩
              · exact ⟨h1, h2, h3⟩
              · cases h
            have hst7 : (10000 : Int) ≤ (xs.length : Nat) ∨ viewRout.can S7 s7 = false := .inr hcan
            have hD8 := hD7.below (Below.more_ (Below.refl _ _) (.cells #[.int .i64 0, .int .i64 xk, .int .u64 xb, .int .i64 xc, .int .u64 xo, .int .u64 xn, .string xt, .int .u64 gw, .string gt] 72))
            have hrun7 := hRun.out
            clear hdid hka hcan hD7 hNx hD hRun
            replace hD8 := Lib.hid hD8
            go_wp2_with fail
            obtain ⟨h1, h2, h3, h4, h5, h6, h7, h8⟩ := view_alone hR (by omega) hL2.out (fun _ _ => rfl) 30 (by decide) hst30.out hrun7 hst7 (view_most hR)
            obtain ⟨D1, j1, _⟩ := hD8.out.rt
            have hRs := viewTold_any j1.2.2
            unfold ViewTold at hRs
            rw [show PView.out _ = m from by unfold PView.out; rw [h2, if_pos rfl, h3]; exact hsi.out, h2, h4] at hRs
            simp only [h1, if_true] at hRs
            have o8 := hD8.out.own
            have hl8 := h6
            clear hrun7 hst7 h1 h2 h3 h4 h6 h8 j1 hD8
            replace hRs := Lib.hid hRs
            replace h5 := Lib.hid h5
            replace h7 := Lib.hid h7
            replace o8 := Lib.hid o8
            go_wp2_with fail
            refine (hRs.out).mono ?_; rintro e w9 ⟨vA, vc, rfl, hown, hb9⟩
            obtain ⟨Kr, hKr1, hKr2⟩ := own_keep hown
            have o9 := o8.out.below hb9
            have o10 : OwnK w1 hb _ _ ((w9.heap.size, Obj.cells #[.int .i64 0, .int .i64 0, .int .i64 0, .bool false, .string ⟨#[]⟩, .slice vA m.length vc, .int .i64 0, .slice none 0 0, .int .i64 3, .int .u64 0] 42) :: (Kr ++ [(g, o), (w.heap.size, cfgO c)])) (w9.alloc (.cells #[.int .i64 0, .int .i64 0, .int .i64 0, .bool false, .string ⟨#[]⟩, .slice vA m.length vc, .int .i64 0, .slice none 0 0, .int .i64 3, .int .u64 0] 42)) := (o9.join fun x hx => ⟨(hKr1 x hx).1, fun hF => by have := o8.out.own.heap.own _ hF; have := (hKr1 x hx).2; omega⟩).add _
            clear hown hb9 o9 hRs hKr1
            replace o10 := Lib.hid o10
            replace hKr2 := Lib.hid hKr2
            go_wp2_with fail
            go_loopw [17] (fun iv wr => AV3 w1 hb _ c ep tx st _ iv wr) (fun i _ => 9 - (intOf i).toNat)
            case atStart => exact ⟨0, _, Nat.zero_le _, rfl, o10.out⟩
            case round =>
              clear o10 o8
              obtain ⟨k3, F3, hk3, rfl, hO3⟩ := hrel
              have hpins := hR.pins
              obtain ⟨p0, p1, p2, p3, p4, p5⟩ := hKc.out _ _ _ _ (by simp) hO3
              by_cases hlt3 : (k3 : Int) < c.pins
              · have d4 : decide ((k3 : Int) < c.pins) = true := by simpa using hlt3
                have d5 : decide ((k3 : Int) < 8) = true := by simp; omega
                have hl63' : (k3 : Int) + 1 ≤ 9223372036854775807 := by omega
                have hPn := hPp.out (k3 : Int) ⟨by omega, hlt3⟩
                have hLd := load_ownK hO3 h5.out k3 hlt3
                replace hPn := Lib.hid hPn
                replace hLd := Lib.hid hLd
                replace hO3 := Lib.hid hO3
                go_wp2_with fail
                refine (hPn.out _).mono ?_; rintro e w11 ⟨rfl, hb11⟩
                have o11 := hO3.out.below hb11
                clear hb11
                replace o11 := Lib.hid o11
                go_wp2_with fail
                refine (hLd.out _ _ o11.out).mono ?_; rintro e w12 ⟨rfl, F12, o12⟩
                replace o12 := Lib.hid o12
                go_wp2_with fail
                go_roundw
                case rel => exact ⟨k3 + 1, F12, by omega, by go_num, o12.out⟩
                case measure => simp [intOf]; omega
              · have d4 : decide ((k3 : Int) < c.pins) = false := by simpa using hlt3
                have hTd : Blk wr w9.heap.size 42 #[.int .i64 0, .int .i64 0, .int .i64 0, .bool false, .string ⟨#[]⟩, .slice vA m.length vc, .int .i64 0, .slice none 0 0, .int .i64 3, .int .u64 0] := (hO3.keep _ (List.mem_cons_self ..)).1
                have t0 := hTd.cell 0
                have t5 := hTd.cell 5
                have hrA := Reads.of_own (hKr2.out wr fun x hx => (hO3.keep x (List.mem_cons_of_mem _ (List.mem_append_left _ hx))).1)
                have hrB := hm.out.reads (hO3.keep (g, o) (List.mem_cons_of_mem _ (List.mem_append_right _ (by simp)))).1
                obtain ⟨cp9, hcp9⟩ := hm.out.slice
                have hSm := same06_any (cap := vc) (cap' := cp) rfl (by omega) hrA hrB.2
                have hBk := blocks_ownK hO3 (by omega)
                rw [h7.out, hnb.out] at hBk
                have hFa := faults_ownK hO3 h5.out.faults
                have hlT := hTd.lt
                clear hTd hrA hrB p0 p2 p3 p4 p5
                replace hSm := Lib.hid hSm
                replace hBk := Lib.hid hBk
                replace hFa := Lib.hid hFa
                replace hO3 := Lib.hid hO3
                replace hcp9 := Lib.hid hcp9
                go_wp2_with fail
                refine (hSm.out).mono ?_; rintro e w13 ⟨rfl, hb13⟩
                have o13 := hO3.out.below hb13
                clear hb13
                replace o13 := Lib.hid o13
                go_wp2_with fail
                refine (hBk.out _ o13.out).mono ?_; rintro e w14 ⟨bv2, rfl, hbo2, hb14⟩
                obtain ⟨⟨bA2, bc2, rfl⟩, _⟩ := own_shapeU hbo2
                have o14 := o13.out.below hb14
                clear hb14 hbo2
                replace o14 := Lib.hid o14
                go_wp2_with fail
                refine (hFa.out _ o14.out).mono ?_; rintro e w15 ⟨rfl, rfl⟩
                have hw' := hbw.out _ _ _ _ o14.out
                replace hw' := Lib.hid hw'
                go_wp2_with fail
                refine (awake27 _).mono ?_; rintro e w16 ⟨rfl, hb16⟩
                go_wp2_with fail
                go_ret
                exact ⟨rfl, Below.next_ hw'.out hb16⟩
          | true =>
            obtain ⟨hcan, r7, hS7, hs7⟩ : viewRout.can S s = true ∧ ∃ r, S7 = (S.act (viewRout.act s).1 r).2 ∧ s7 = viewRout.take s (S.act (viewRout.act s).1 r).1 := by
              rcases hdid with ⟨h, _⟩ | ⟨_, h1, h2⟩
              · cases h
              · exact ⟨h1, h2⟩
            have hk8 : xk ≠ 8 := by
              have h1 := view_kind s
              have h2 : PAct.mk xk xb xc xo xn xt = (viewRout.act s).1 := hka rfl
              rw [show (viewRout.act s).1 = s.act.1 from rfl] at h2
              rw [← h2] at h1
              exact h1
            have hk8b : (xk == 8) = false := by simpa using hk8
            have hRun7 := Runs.snoc viewRout hRun.out hcan r7
            rw [← hS7, ← hs7] at hRun7
            have hD8 := hD7.below (Below.more_ (Below.refl _ _) (.cells #[.int .i64 0, .int .i64 xk, .int .u64 xb, .int .i64 xc, .int .u64 xo, .int .u64 xn, .string xt, .int .u64 gw, .string gt] 72))
            clear hdid hka hcan hD7 hNx hD hS7 hs7
            replace hRun7 := Lib.hid hRun7
            replace hD8 := Lib.hid hD8
            go_wp2_with fail
            go_roundw
            case rel => exact ⟨n + 1, _, S7, F7, s7, by omega, by go_num, hD8.out, hRun7.out, by rw [List.length_append, hxl.out]; rfl⟩
            case measure => simp [intOf]; omega
        · have d3 : decide ((n : Int) < 10000) = false := by simp; omega
          have hst7 : (10000 : Int) ≤ (xs.length : Nat) ∨ viewRout.can S s = false := .inl (by omega)
          have hrun7 := hRun
          have hD8 := hD
          clear hD hRun hxl
          replace hD8 := Lib.hid hD8
          replace hrun7 := Lib.hid hrun7
          replace hrun7 := hrun7.out
          go_wp2_with fail
          obtain ⟨h1, h2, h3, h4, h5, h6, h7, h8⟩ := view_alone hR (by omega) hL2.out (fun _ _ => rfl) 30 (by decide) hst30.out hrun7 hst7 (view_most hR)
          obtain ⟨D1, j1, _⟩ := hD8.out.rt
          have hRs := viewTold_any j1.2.2
          unfold ViewTold at hRs
          rw [show PView.out _ = m from by unfold PView.out; rw [h2, if_pos rfl, h3]; exact hsi.out, h2, h4] at hRs
          simp only [h1, if_true] at hRs
          have o8 := hD8.out.own
          have hl8 := h6
          clear hrun7 hst7 h1 h2 h3 h4 h6 h8 j1 hD8
          replace hRs := Lib.hid hRs
          replace h5 := Lib.hid h5
          replace h7 := Lib.hid h7
          replace o8 := Lib.hid o8
          go_wp2_with fail
          refine (hRs.out).mono ?_; rintro e w9 ⟨vA, vc, rfl, hown, hb9⟩
          obtain ⟨Kr, hKr1, hKr2⟩ := own_keep hown
          have o9 := o8.out.below hb9
          have o10 : OwnK w1 hb _ _ ((w9.heap.size, Obj.cells #[.int .i64 0, .int .i64 0, .int .i64 0, .bool false, .string ⟨#[]⟩, .slice vA m.length vc, .int .i64 0, .slice none 0 0, .int .i64 3, .int .u64 0] 42) :: (Kr ++ [(g, o), (w.heap.size, cfgO c)])) (w9.alloc (.cells #[.int .i64 0, .int .i64 0, .int .i64 0, .bool false, .string ⟨#[]⟩, .slice vA m.length vc, .int .i64 0, .slice none 0 0, .int .i64 3, .int .u64 0] 42)) := (o9.join fun x hx => ⟨(hKr1 x hx).1, fun hF => by have := o8.out.own.heap.own _ hF; have := (hKr1 x hx).2; omega⟩).add _
          clear hown hb9 o9 hRs hKr1
          replace o10 := Lib.hid o10
          replace hKr2 := Lib.hid hKr2
          go_wp2_with fail
          go_loopw [17] (fun iv wr => AV3 w1 hb _ c ep tx st _ iv wr) (fun i _ => 9 - (intOf i).toNat)
          case atStart => exact ⟨0, _, Nat.zero_le _, rfl, o10.out⟩
          case round =>
            clear o10 o8
            obtain ⟨k3, F3, hk3, rfl, hO3⟩ := hrel
            have hpins := hR.pins
            obtain ⟨p0, p1, p2, p3, p4, p5⟩ := hKc.out _ _ _ _ (by simp) hO3
            by_cases hlt3 : (k3 : Int) < c.pins
            · have d4 : decide ((k3 : Int) < c.pins) = true := by simpa using hlt3
              have d5 : decide ((k3 : Int) < 8) = true := by simp; omega
              have hl63' : (k3 : Int) + 1 ≤ 9223372036854775807 := by omega
              have hPn := hPp.out (k3 : Int) ⟨by omega, hlt3⟩
              have hLd := load_ownK hO3 h5.out k3 hlt3
              replace hPn := Lib.hid hPn
              replace hLd := Lib.hid hLd
              replace hO3 := Lib.hid hO3
              go_wp2_with fail
              refine (hPn.out _).mono ?_; rintro e w11 ⟨rfl, hb11⟩
              have o11 := hO3.out.below hb11
              clear hb11
              replace o11 := Lib.hid o11
              go_wp2_with fail
              refine (hLd.out _ _ o11.out).mono ?_; rintro e w12 ⟨rfl, F12, o12⟩
              replace o12 := Lib.hid o12
              go_wp2_with fail
              go_roundw
              case rel => exact ⟨k3 + 1, F12, by omega, by go_num, o12.out⟩
              case measure => simp [intOf]; omega
            · have d4 : decide ((k3 : Int) < c.pins) = false := by simpa using hlt3
              have hTd : Blk wr w9.heap.size 42 #[.int .i64 0, .int .i64 0, .int .i64 0, .bool false, .string ⟨#[]⟩, .slice vA m.length vc, .int .i64 0, .slice none 0 0, .int .i64 3, .int .u64 0] := (hO3.keep _ (List.mem_cons_self ..)).1
              have t0 := hTd.cell 0
              have t5 := hTd.cell 5
              have hrA := Reads.of_own (hKr2.out wr fun x hx => (hO3.keep x (List.mem_cons_of_mem _ (List.mem_append_left _ hx))).1)
              have hrB := hm.out.reads (hO3.keep (g, o) (List.mem_cons_of_mem _ (List.mem_append_right _ (by simp)))).1
              obtain ⟨cp9, hcp9⟩ := hm.out.slice
              have hSm := same06_any (cap := vc) (cap' := cp) rfl (by omega) hrA hrB.2
              have hBk := blocks_ownK hO3 (by omega)
              rw [h7.out, hnb.out] at hBk
              have hFa := faults_ownK hO3 h5.out.faults
              have hlT := hTd.lt
              clear hTd hrA hrB p0 p2 p3 p4 p5
              replace hSm := Lib.hid hSm
              replace hBk := Lib.hid hBk
              replace hFa := Lib.hid hFa
              replace hO3 := Lib.hid hO3
              replace hcp9 := Lib.hid hcp9
              go_wp2_with fail
              refine (hSm.out).mono ?_; rintro e w13 ⟨rfl, hb13⟩
              have o13 := hO3.out.below hb13
              clear hb13
              replace o13 := Lib.hid o13
              go_wp2_with fail
              refine (hBk.out _ o13.out).mono ?_; rintro e w14 ⟨bv2, rfl, hbo2, hb14⟩
              obtain ⟨⟨bA2, bc2, rfl⟩, _⟩ := own_shapeU hbo2
              have o14 := o13.out.below hb14
              clear hb14 hbo2
              replace o14 := Lib.hid o14
              go_wp2_with fail
              refine (hFa.out _ o14.out).mono ?_; rintro e w15 ⟨rfl, rfl⟩
              have hw' := hbw.out _ _ _ _ o14.out
              replace hw' := Lib.hid hw'
              go_wp2_with fail
              refine (awake27 _).mono ?_; rintro e w16 ⟨rfl, hb16⟩
              go_wp2_with fail
              go_ret
              exact ⟨rfl, Below.next_ hw'.out hb16⟩
theorem vwalkAlone27 (A : Option Addr) (len cap : Nat) (ls : List PChange) (hlen : ls.length = len) (c : PCfg) (ep : Int) (hep : 0 ≤ ep ∧ ep ≤ 255) (w : World) (hr : Reads w w.heap.size 3 A len (chL ls)) :
    Calls Tryz.prog 5 #[c.val, .slice A len cap, .int .u8 ep] w fun e w' => e = .returned (.bool true) ∧ Below w.heap.size w w' := by
  by_cases hl : 30 < len
  · exact valongSmall A len cap c ep (.inr hl) w
  cases hright : c.right with
  | false => exact valongSmall A len cap c ep (.inl hright) w
  | true => exact valongWalk A len cap ls hlen (by omega) c ((PCfg.right_iff c).1 hright) ep hep w hr
end Go.Proofs.YtmlnhjfdhjachaaGreat

/-
  The frame that every law's proof shares: a contract that says 'it returns true, and nothing that was there has turned' gives the row's step. And how the arguments are opened. No condition.
-/
namespace Go.Proofs.YtmlnhjfdhjachaaGreat
set_option linter.unusedVariables false
open Go.ChangeShapes Go.WideShapes Go.ChangeAt Go.RowKit

section
variable {H : Type} {enc : TypeId × Value → H} {P : Program}
theorem stays_all (hl : laidOutB P = true) {W W' : World} (hb : Below W.heap.size W W') {sp : Nat → Bool} :
    ∀ {ts : List TypeId} {vs : List Value} {ds : List (DataW H)} {ps : List MemPlace}, (∀ t ∈ ts, P.readableRec t = true ∧ t < P.types.size) →
      DataW.TrodAll enc P W 0 (fun _ => true) true ts vs ds ps → (∀ p ∈ ps, p.block < W.heap.size ∧ sp p.block = true) → DataW.TrodAll enc P W' 0 sp true ts vs ds ps
  | [], [], [], ps, _, h, _ => h
  | t :: ts, v :: vs, d :: ds, ps, ht, h, hp => by
    obtain ⟨p, q, h1, h2, rfl⟩ := h
    refine ⟨p, q, ?_, ?_, rfl⟩
    · exact WideElems.Trod_stays hl (ht t (by simp)).1 (ht t (by simp)).2 h1 (fun x hx => hb.same (hp x (by simp [hx])).1) (fun x hx => (hp x (by simp [hx])).2)
    · exact stays_all hl hb (fun t' h' => ht t' (by simp [h'])) h2 (fun x hx => hp x (by simp [hx]))
  | [], _ :: _, _, _, _, h, _ => h.elim
  | [], [], _ :: _, _, _, h, _ => h.elim
  | _ :: _, [], _, _, _, h, _ => h.elim
  | _ :: _, _ :: _, [], _, _, h, _ => h.elim

theorem trod_len {w : World} {base : Nat} {sp : Nat → Bool} {held : Bool} : ∀ {ts : List TypeId} {vs : List Value} {ds : List (DataW H)} {ps : List MemPlace}, DataW.TrodAll enc P w base sp held ts vs ds ps → ds.length = ts.length
  | [], [], [], _, _ => rfl
  | _ :: _, _ :: _, _ :: _, _, h => by
    obtain ⟨_, _, _, h2, _⟩ := h
    simp [trod_len h2]
  | [], _ :: _, _, _, h => h.elim
  | [], [], _ :: _, _, h => h.elim
  | _ :: _, [], _, _, h => h.elim
  | _ :: _, _ :: _, [], _, h => h.elim

theorem row_mem (a : Addr) (n : Nat) (h : 0 < n) : MemPlace.cell a.block a.off ∈ MemPlace.row a n := by
  unfold MemPlace.row
  simp
  exact h
theorem list_of_each {α : Type} {R : Nat → α → Prop} : ∀ len : Nat, (∀ i, i < len → ∃ x, R i x) → ∃ xs : List α, xs.length = len ∧ ∀ i x, xs[i]? = some x → R i x
  | 0, _ => ⟨[], rfl, by simp⟩
  | len + 1, each => by
    obtain ⟨xs, hl1, h1⟩ := list_of_each len fun i hil => each i (by omega)
    obtain ⟨x, hx1⟩ := each len (by omega)
    refine ⟨xs ++ [x], by simp [hl1], fun i y hy => ?_⟩
    rcases Nat.lt_or_ge i xs.length with h2 | h2
    · exact h1 i y (by rwa [List.getElem?_append_left h2] at hy)
    · rw [List.getElem?_append_right h2] at hy
      have h3 : i - xs.length = 0 := by
        have := (List.getElem?_eq_some_iff.1 hy).1
        simp at this
        omega
      rw [h3] at hy
      simp at hy
      subst hy
      have : i = len := by omega
      subst this
      exact hx1
/-- A slice among the arguments, nil or not, whatever its elements: as a list of its own. 'hel': how one element's cells read. -/
theorem open_list {α : Type} {w : World} {t e : TypeId} {k : Nat} (mk : α → List Value) (good : α → Prop) {v : Value} {d : DataW H} {ps : List MemPlace} {b0 : Nat} (ht : P.underlying t = some (.slice e)) (hc : P.cellsOf e = k) (hk : 0 < k) (hmk : ∀ x, (mk x).length = k)
    (hel : ∀ (n : Nat) (cs : List Value) (y : DataW H × List MemPlace), cs.length = k → DataW.trod enc P w 0 (fun _ => true) true n e cs = some y → ∃ x, cs = mk x ∧ good x)
    (hv : Value.okWide P w .any b0 t v) (h : DataW.Trod enc P w 0 (fun _ => true) true t v d ps) (hlt : ∀ x ∈ ps, x.block < w.heap.size) :
    ∃ (A : Option Addr) (len cap : Nat) (xs : List α), v = .slice A len cap ∧ len ≤ cap ∧ cap ≤ maxLen ∧ xs.length = len ∧ Reads w w.heap.size k A len (xs.flatMap mk) ∧ ∀ x ∈ xs, good x := by
  obtain ⟨a0, len, cap, rfl⟩ := okWide_slice ht hv
  obtain ⟨fuel, hf⟩ := h
  rcases Deep.open_slice ht hf with ⟨hcs, hx⟩ | ⟨a, len', cap', m, n, D, Pl, hcs, _, hl, hm, hmm, hx, hi⟩
  · simp only [Value.cells] at hcs
    obtain ⟨rfl, rfl, rfl⟩ : a0 = none ∧ len = 0 ∧ cap = 0 := by simpa using hcs
    exact ⟨none, 0, 0, [], rfl, Nat.le_refl _, by unfold maxLen; omega, rfl, Reads.none_, by simp⟩
  · obtain ⟨rfl, rfl, rfl⟩ : a0 = some a ∧ len = len' ∧ cap = cap' := by simpa [Value.cells] using hcs
    simp only [if_true] at hmm
    subst hmm
    rw [hc] at hx hi
    have each : ∀ i, i < len → ∃ x, good x ∧ ∀ j u, (mk x)[j]? = some u → w.cell? (a.add (i * k + j)) = some u := by
      intro i hil
      obtain ⟨cs', h1, h2⟩ := hi i (by omega)
      obtain ⟨_, hcl, hat⟩ := World.cells?_some h1
      obtain ⟨x, rfl, hg⟩ := hel n cs' _ hcl h2
      refine ⟨x, hg, fun j u hu => ?_⟩
      have hj : j < k := by have := (List.getElem?_eq_some_iff.1 hu).1; omega
      rw [← add_of_add, hat j hj]
      exact hu
    obtain ⟨xs, hxl, hxs⟩ := list_of_each len each
    refine ⟨some a, len, _, xs, rfl, hl, hm, hxl, ⟨?_, fun hn => ⟨a, rfl, ?_, fun j u hu => ?_⟩⟩, fun x hx1 => ?_⟩
    · have : ∀ l : List α, (l.flatMap mk).length = l.length * k := by
        intro l
        induction l with
        | nil => simp
        | cons x l ih => rw [List.flatMap_cons, List.length_append, ih, hmk, List.length_cons, Nat.succ_mul]; omega
      rw [this, hxl]
    · simp only [Prod.mk.injEq] at hx
      have hpos : 0 < m * k := Nat.mul_pos (by omega) hk
      have := hlt (.cell a.block a.off) (by rw [hx.2]; exact List.mem_append_left _ (row_mem a _ hpos))
      exact this
    · have hj : j / k * k + j % k = j := Nat.div_add_mod' j k
      rw [← hj, flat_get mk k hmk xs (j / k) (j % k) (Nat.mod_lt _ hk)] at hu
      cases hxi : xs[j / k]? with
      | none => rw [hxi] at hu; cases hu
      | some x =>
        rw [hxi] at hu
        have := (hxs (j / k) x hxi).2 (j % k) u hu
        rwa [hj] at this
    · obtain ⟨i, hil, rfl⟩ := List.getElem_of_mem hx1
      exact (hxs i _ (List.getElem?_eq_getElem hil)).1

theorem rows_of {P : Program} {l : List TypeId} (h : (l.all fun t => P.readableRec t && decide (t < P.types.size)) = true) : ∀ t ∈ l, P.readableRec t = true ∧ t < P.types.size := by
  intro t ht
  have := List.all_eq_true.1 h t ht
  rw [Bool.and_eq_true, decide_eq_true_eq] at this
  exact this

theorem law_lift {C : Checked} {f : FuncId} {fn : Func} {s : ChangeSpec} {os : Os} {B : TypeId} (own : ownKnob C.prog.godebug = none) (started : os.Started) (noInit : C.prog.inits.idxOf? f = none) (hfn : C.prog.funcs[f]? = some fn)
    (hl : laidOutB C.prog = true) (hts : ∀ t ∈ fn.params.toList, C.prog.readableRec t = true ∧ t < C.prog.types.size) (hB : C.prog.underlying B = some .bool) (hrt : fn.resultTypes = #[B]) (hv : s.vars = [])
    (hs : ∀ ds : List (DataW H), ds.length = fn.params.toList.length → (s.fn H ds).results = [.lit (.bool true)] ∧ (s.fn H ds).args = ds ∧ (s.fn H ds).vars = [])
    (witness : ∃ (w : World) (tape : Tape) (i : Input), w.os = os ∧ (w.forCall tape i).Shaped C.prog ∧ i.vars = [] ∧ Input.okWide C.prog (w.forCall tape i) .any w.heap.size f i ∧
      s.pre6 enc C.prog fn [] false (w.forCall tape i).memory i.args ∧ ({} : Assume).holds C.prog (lone (Frame.enter C.prog f i.args .normal) [] (w.forCall tape i)))
    (contract : ∀ (W : World) (base : Nat) (args : Array Value) (ds : List (DataW H)) (p : List MemPlace),
      (∀ (j : Nat) t v, fn.params[j]? = some t → args[j]? = some v → Value.okWide C.prog W .any base t v) →
      DataW.TrodAll enc C.prog W 0 (fun _ => true) true fn.params.toList args.toList ds p → (∀ x ∈ p, x.block < W.heap.size) →
      (DataW.weightsEach C.prog fn.params.toList ds).all (· ≤ reachBytes) = true →
      Calls C.prog f args W fun e W' => e = .returned (.bool true) ∧ Below W.heap.size W W') :
    ReturnsInHanded {} C os f .any (s.pre6 enc C.prog fn [] false) (s.post enc C.prog fn false true false false) := by
  refine returnsInHanded_of_change_sized own started noInit hfn witness ?_
  intro W base args ds gs before hval hW _ hwt _
  have hW' := hW
  have hlt : ∀ x ∈ before, x.block < W.heap.size := fun x hx => hW.lt x hx
  obtain ⟨p, q, hA, hV, rfl, hfz, hnd⟩ := hW
  rw [hv] at hV
  obtain ⟨rfl, rfl⟩ := trodVars_none hV
  have hl2 : ds.length = fn.params.toList.length := trod_len hA
  have hvt : s.plain.varTypes C.prog = [] := by unfold ChangeSpec.plain; rw [hv]; rfl
  rw [hvt] at hwt
  simp only [List.append_nil] at hwt hW' hlt
  obtain ⟨e1, e2, e3⟩ := hs ds hl2
  refine (contract W base args ds p hval hA hlt hwt).mono fun e W' ⟨he, hb⟩ => ?_
  subst he
  refine ⟨_, rfl, post_of_below (pa := p) (pv := []) hW' ?_ ?_ ?_ (by simp) hb ?_⟩
  · intro _ _ _
    simp only [List.append_nil, e1, hrt]
    exact trodAll_cons_mk (shut_bool hB _) trodAll_mk0
  · intro sp hsp
    simp only [List.append_nil, e2]
    exact stays_all hl hb hts hA (fun x hx => ⟨hlt x hx, hsp x hx⟩)
  · intro sp _
    simp only [List.append_nil, e3, hv]
    rfl
  · exact ok_one hrt rfl (okWide_bool_mk hB _)
end
end Go.Proofs.YtmlnhjfdhjachaaGreat

/-
  How records among the arguments are opened: answers, changes. No condition.
-/
namespace Go.Proofs.YtmlnhjfdhjachaaGreat
set_option linter.unusedVariables false
open Go.ChangeShapes Go.WideShapes Go.ChangeAt Go.RowKit
section
variable {H : Type} {enc : TypeId × Value → H}
theorem rec_fields {P : Program} {w : World} {base : Nat} {sp : Nat → Bool} {held : Bool} {fuel : Nat} {t : TypeId} {fs : Array Field} {cs : List Value} {x : DataW H × List MemPlace} (ht : P.underlying t = some (.struct fs)) (h : DataW.trod enc P w base sp held fuel t cs = some x) :
    cs.length = P.cellsOf t ∧ ∀ (i : Nat) (f : Field), fs[i]? = some f → ∃ n y, DataW.trod enc P w base sp held n f.type ((cs.drop f.offset).take (P.cellsOf f.type)) = some y := by
  obtain ⟨xs, n, _, _, hl, hlen, hf⟩ := DataW.trod_struct ht h
  refine ⟨hl, fun i f hi => ?_⟩
  have h1 := hf i f hi
  have h2 : i < fs.size := (Array.getElem?_eq_some_iff.mp hi).1
  exact ⟨n, xs[i]'(by omega), h1.trans (List.getElem?_eq_getElem (by omega))⟩
end
end Go.Proofs.YtmlnhjfdhjachaaGreat

/-
  How a config among the arguments is opened. No condition.
-/
namespace Go.Proofs.YtmlnhjfdhjachaaGreat
set_option linter.unusedVariables false
open Go.ChangeShapes Go.WideShapes Go.ChangeAt Go.RowKit
section
variable {H : Type} {enc : TypeId × Value → H}
set_option maxRecDepth 100000 in
theorem open_config {w : World} {v : Value} {d : DataW H} {ps : List MemPlace} {b0 : Nat} (hv : Value.okWide Tryz.prog w .any b0 24 v) (h : DataW.Trod enc Tryz.prog w 0 (fun _ => true) true 24 v d ps) :
    ∃ c : PCfg, v = c.val ∧ (-9223372036854775808 ≤ c.cap ∧ c.cap ≤ 9223372036854775807) ∧ (0 ≤ c.seed ∧ c.seed ≤ 18446744073709551615) := by
  simp only [Value.okWide, Tryz.underlying24] at hv
  obtain ⟨cs, rfl, hsz, _⟩ := hv
  obtain ⟨l⟩ := cs
  match l, hsz with
  | [c0, c1, c2, c3, c4, c5], _ =>
    obtain ⟨fuel, hf0⟩ := h
    obtain ⟨_, hf⟩ := rec_fields Tryz.underlying24 hf0
    obtain ⟨n0, y0, h0⟩ := hf 0 _ rfl
    obtain ⟨n1, y1, h1⟩ := hf 1 _ rfl
    obtain ⟨n2, y2, h2⟩ := hf 2 _ rfl
    obtain ⟨n3, y3, h3⟩ := hf 3 _ rfl
    obtain ⟨n4, y4, h4⟩ := hf 4 _ rfl
    obtain ⟨n5, y5, h5⟩ := hf 5 _ rfl
    obtain ⟨a0, e0, _, w0⟩ := DataW.trod_int Tryz.underlying3 h0
    obtain ⟨a1, e1, _, w1⟩ := DataW.trod_int Tryz.underlying3 h1
    obtain ⟨a2, e2, _, w2⟩ := DataW.trod_int Tryz.underlying3 h2
    obtain ⟨a3, e3, _, w3⟩ := DataW.trod_int Tryz.underlying3 h3
    obtain ⟨a4, e4, _, w4⟩ := DataW.trod_int Tryz.underlying3 h4
    obtain ⟨a5, e5, _, w5⟩ := DataW.trod_int Tryz.underlying22 h5
    have e0' : c0 = .int .i64 a0 := by
      have : [c0] = [Value.int .i64 a0] := e0
      injection this
    have e1' : c1 = .int .i64 a1 := by
      have : [c1] = [Value.int .i64 a1] := e1
      injection this
    have e2' : c2 = .int .i64 a2 := by
      have : [c2] = [Value.int .i64 a2] := e2
      injection this
    have e3' : c3 = .int .i64 a3 := by
      have : [c3] = [Value.int .i64 a3] := e3
      injection this
    have e4' : c4 = .int .i64 a4 := by
      have : [c4] = [Value.int .i64 a4] := e4
      injection this
    have e5' : c5 = .int .u64 a5 := by
      have : [c5] = [Value.int .u64 a5] := e5
      injection this
    subst e0' e1' e2' e3' e4' e5'
    exact ⟨⟨a0, a1, a2, a3, a4, a5⟩, rfl, bounds_i64 w0, bounds_u64 w5⟩
end
end Go.Proofs.YtmlnhjfdhjachaaGreat

/-
  How rows of changes among the arguments are opened. No condition.
-/
namespace Go.Proofs.YtmlnhjfdhjachaaGreat
set_option linter.unusedVariables false
open Go.ChangeShapes Go.WideShapes Go.ChangeAt Go.RowKit
section
variable {H : Type} {enc : TypeId × Value → H}
set_option maxRecDepth 100000 in
theorem open_chg {w : World} {base : Nat} {sp : Nat → Bool} {held : Bool} (n : Nat) (cs : List Value) (y : DataW H × List MemPlace) (hl : cs.length = 3) (h : DataW.trod enc Tryz.prog w base sp held n 57 cs = some y) :
    ∃ c : PChange, cs = [.string c.key, .bool c.has, .string c.value] ∧ (c.key.size ≤ maxLen ∧ c.value.size ≤ maxLen) := by
  obtain ⟨_, hf⟩ := rec_fields Tryz.underlying57 h
  match cs, hl with
  | [c0, c1, c2], _ =>
    obtain ⟨n0, y0, h0⟩ := hf 0 _ rfl
    obtain ⟨n1, y1, h1⟩ := hf 1 _ rfl
    obtain ⟨n2, y2, h2⟩ := hf 2 _ rfl
    obtain ⟨a, e0, _, w0⟩ := DataW.trod_string Tryz.underlying9 h0
    obtain ⟨b, e1, _⟩ := DataW.trod_bool Tryz.underlying4 h1
    obtain ⟨c, e2, _, w2⟩ := DataW.trod_string Tryz.underlying9 h2
    have e0' : c0 = .string a := by
      have : [c0] = [Value.string a] := e0
      injection this
    have e1' : c1 = .bool b := by
      have : [c1] = [Value.bool b] := e1
      injection this
    have e2' : c2 = .string c := by
      have : [c2] = [Value.string c] := e2
      injection this
    subst e0' e1' e2'
    exact ⟨⟨a, b, c⟩, rfl, w0, w2⟩
end
end Go.Proofs.YtmlnhjfdhjachaaGreat
