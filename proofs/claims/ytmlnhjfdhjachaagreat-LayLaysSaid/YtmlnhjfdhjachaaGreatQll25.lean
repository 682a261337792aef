import Derived.Deep.CutRange
import Derived.Deep.RegionHeld3
import Derived.StillTailTactics
import Derived.Test.YtmlnhjfdhjachaaGreatProg
import Derived.Sort.WalkA
import Derived.Sort.WalkA6
import Derived.Sort.WalkC4
import Derived.Lib.Strings
import Derived.Lib.Slices
import Derived.Lib.Small
import Derived.Lib.Walk
import Derived.Lib.BitFns
import Derived.Sort.Walk7
import Derived.Sort.WalkB3
import Derived.Sort.WalkD2
import Derived.Sort.Walk11
import Derived.Sort.Walk13
import Derived.Sort.WalkA14
import Derived.Sort.AssemblyPlain
import Derived.Test.YtmlnhjfdhjachaaGreatQll24
/-
  The walk of LayLays (layer 30). No condition.
-/
namespace Go.Proofs.YtmlnhjfdhjachaaGreat
set_option linter.unusedVariables false
open Go.ChangeShapes Go.WideShapes Go.ChangeAt Go.RowKit
open Go.ChangeMaps (setBlock)

set_option maxRecDepth 100000 in
set_option maxHeartbeats 8000000 in
theorem lzSmall (A : Option Addr) (len cap : Nat) (c : PCfg) (hcs : c.right = false ∨ c.right = true ∧ 12 < len) (w : World) :
    Calls Tryz.prog 6 #[c.val, .slice A len cap] w fun e w' => e = .returned (.bool true) ∧ Below w.heap.size w w' := by
  have hCV : c.val = .agg #[.int .i64 c.cap, .int .i64 c.pins, .int .i64 c.shelves, .int .i64 c.queue, .int .i64 c.watchers, .int .u64 c.seed] := rfl
  have hRR := fun W => right_cfg c W
  have hz : Below w.heap.size w (w.alloc (.cells #[.int .i64 c.cap, .int .i64 c.pins, .int .i64 c.shelves, .int .i64 c.queue, .int .i64 c.watchers, .int .u64 c.seed] 24)) := (Below.refl _ _).alloc (Nat.le_refl _) _
  have B0 := Blk.new w 24 #[.int .i64 c.cap, .int .i64 c.pins, .int .i64 c.shelves, .int .i64 c.queue, .int .i64 c.watchers, .int .u64 c.seed]
  have c0 := B0.cell 0
  have c1 := B0.cell 1
  have c2 := B0.cell 2
  have c3 := B0.cell 3
  have c4 := B0.cell 4
  have c5 := B0.cell 5
  rw [hCV] at hRR ⊢
  clear hCV
  replace hz := Lib.hid hz
  replace B0 := Lib.hid B0
  rcases hcs with hR | ⟨hR, hl⟩
  · rw [hR] at hRR
    replace hRR := Lib.hid hRR
    go_enter Tryz.func6, Tryz.ntmps6
    go_wp2_with fail
    refine (hRR.out _).mono ?_; rintro e w1 ⟨rfl, hb1⟩
    go_wp2_with fail
    refine (awake30 _).mono ?_; rintro e w7 ⟨rfl, hb7⟩
    go_wp2_with fail
    go_ret
    have h1 := nx hz.out (Nat.le_refl _) hb1
    exact ⟨rfl, h1.trans (hb7.mono h1.size)⟩
  · rw [hR] at hRR
    replace hRR := Lib.hid hRR
    have d1 : decide ((12 : Int) < (len : Int)) = true := by simp; omega
    go_enter Tryz.func6, Tryz.ntmps6
    go_wp2_with fail
    refine (hRR.out _).mono ?_; rintro e w1 ⟨rfl, hb1⟩
    go_wp2_with fail
    refine (awake30 _).mono ?_; rintro e w7 ⟨rfl, hb7⟩
    go_wp2_with fail
    go_ret
    have h1 := nx hz.out (Nat.le_refl _) hb1
    exact ⟨rfl, h1.trans (hb7.mono h1.size)⟩
/-- The keys that were put: pairs with no value. -/
def KeysOf (km : List (ByteArray × ByteArray)) : List ByteArray := km.map (·.1)
theorem mem_keys (t : ByteArray) : ∀ (l : List (ByteArray × ByteArray)), t ∈ KeysOf l ↔ (getP l t).1 = true
  | [] => ⟨fun h => (by cases h), fun h => (by cases h)⟩
  | p :: l => by
    have ih := mem_keys t l
    have e : getP (p :: l) t = if p.1 = t then (true, p.2) else getP l t := rfl
    rw [e]
    show t ∈ p.1 :: KeysOf l ↔ _
    rw [List.mem_cons, ih]
    by_cases h : p.1 = t
    · rw [if_pos h]
      exact ⟨fun _ => rfl, fun _ => .inl h.symm⟩
    · rw [if_neg h]
      exact ⟨fun h1 => h1.elim (fun h2 => absurd h2.symm h) id, .inr⟩
theorem put_keys (km : List (ByteArray × ByteArray)) (key v t : ByteArray) : t ∈ KeysOf (putP (geP key) key v km false) ↔ t = key ∨ t ∈ KeysOf km := by
  rw [mem_keys, mem_keys, getP_put]
  by_cases h : t = key
  · rw [if_pos h]
    exact ⟨fun _ => .inl h, fun _ => rfl⟩
  · rw [if_neg h]
    exact ⟨.inr, fun h1 => h1.elim (fun h2 => absurd h2 h) id⟩
/-- One of the kept blocks is replaced by a new one. -/
theorem OwnK.swap_ {w0 w w' : World} {hb : Nat} {S : PHeap} {F : Nat → Prop} {K K' : List (Nat × Obj)} (h : OwnK w0 hb S F K w) {g : Nat} {o : Obj} (hb' : Below w.heap.size w w') (hg : w'.heap[g]? = some o) (hs : w.heap.size ≤ g) (hK : ∀ x ∈ K', x ∈ K) : OwnK w0 hb S F ((g, o) :: K') w' :=
  ((h.below hb').hold hg (fun hF => by have := h.own.heap.own _ hF; omega)).sub fun x hx => by
    rcases List.mem_cons.1 hx with hx | hx
    · exact List.mem_cons.2 (.inl hx)
    · exact List.mem_cons.2 (.inr (hK x hx))
/-- A kept row is turned in a new world: it is the old block's or a new one. -/
theorem OwnK.turn_ {w0 w w' : World} {hb : Nat} {S : PHeap} {F : Nat → Prop} {K K' : List (Nat × Obj)} (h : OwnK w0 hb S F K w) {g g0 : Nat} {o o0 : Obj} (hb' : Below w.heap.size w w') (hg : w'.heap[g]? = some o) (h0 : (g0, o0) ∈ K) (hs : g = g0 ∨ w.heap.size ≤ g) (hK : ∀ x ∈ K', x ∈ K) : OwnK w0 hb S F ((g, o) :: K') w' :=
  ((h.below hb').hold hg (fun hF => by
    rcases hs with rfl | hs
    · exact (h.keep _ h0).2 hF
    · have := h.own.heap.own _ hF; omega)).sub fun x hx => by
    rcases List.mem_cons.1 hx with hx | hx
    · exact List.mem_cons.2 (.inl hx)
    · exact List.mem_cons.2 (.inr (hK x hx))
theorem view_most72 {c : PCfg} (h : c.Right) : c.shelves * (4 + 2 * ((72 : Nat) : Int)) + 20 ≤ 10000 := by
  have := h.shelves
  omega
theorem ln_eight {s : PLay} (h : s.part = 8) : (layRout.act s).2 = false := by
  show s.act.2 = false
  unfold PLay.act
  simp [h]
theorem cfg_cells {w0 W : World} {hb b : Nat} {S : PHeap} {F : Nat → Prop} {K : List (Nat × Obj)} {c : PCfg} (h : OwnK w0 hb S F K W) (hm : (b, cfgO c) ∈ K) : W.cell? ⟨b, 0, none⟩ = some (.int .i64 c.cap) ∧ W.cell? ⟨b, 1, none⟩ = some (.int .i64 c.pins) ∧ W.cell? ⟨b, 2, none⟩ = some (.int .i64 c.shelves) ∧ W.cell? ⟨b, 3, none⟩ = some (.int .i64 c.queue) ∧ W.cell? ⟨b, 4, none⟩ = some (.int .i64 c.watchers) ∧ W.cell? ⟨b, 5, none⟩ = some (.int .u64 c.seed) := by
  have hB : Blk W b 24 #[.int .i64 c.cap, .int .i64 c.pins, .int .i64 c.shelves, .int .i64 c.queue, .int .i64 c.watchers, .int .u64 c.seed] := (h.keep _ hm).1
  exact ⟨hB.cell 0, hB.cell 1, hB.cell 2, hB.cell 3, hB.cell 4, hB.cell 5⟩
/-- Between two rows. -/
def LZ1 (w w1 : World) (len : Nat) (c : PCfg) (hb : Nat) (mv kv iv : Value) (wr : World) : Prop :=
  ∃ (k : Nat) (S : PHeap) (F : Nat → Prop) (tx : Nat → Option ByteArray) (st : Nat → List PVersion) (m km : List (ByteArray × ByteArray)) (g gk : Nat) (o ok : Obj), k ≤ len ∧ iv = .int .i64 k ∧ PRow mv g o m ∧ PRow kv gk ok km ∧ OwnK w1 hb S F [(gk, ok), (g, o), (w.heap.size, cfgO c)] wr ∧ Laid S c tx st (fun _ => 0) k ∧ Know c tx st k m ∧ Rises m ∧ m.length ≤ 6 * k ∧ (∀ j, (st j).length ≤ 6 * k) ∧ (∀ p, ∀ v ∈ st p, v.epoch ≤ k) ∧ (∀ p t, tx p = some t → t ∈ KeysOf km) ∧ km.length ≤ 6 * k ∧ S.last ≤ 1 + 2000 * k ∧ w1.heap.size ≤ g ∧ w1.heap.size ≤ gk
/-- Between two keys of a row: the field stays as it is. -/
def LZ2 (w w1 : World) (c : PCfg) (hb g : Nat) (o : Obj) (S : PHeap) (F : Nat → Prop) (row : List PChange) (km0 : List (ByteArray × ByteArray)) (kv iv : Value) (wr : World) : Prop :=
  ∃ (j : Nat) (km : List (ByteArray × ByteArray)) (gk : Nat) (ok : Obj), j ≤ row.length ∧ iv = .int .i64 j ∧ PRow kv gk ok km ∧ OwnK w1 hb S F [(gk, ok), (g, o), (w.heap.size, cfgO c)] wr ∧ (∀ t, t ∈ KeysOf km0 → t ∈ KeysOf km) ∧ (∀ ch ∈ row.take j, ch.key ∈ KeysOf km) ∧ km.length ≤ km0.length + j ∧ w1.heap.size ≤ gk
set_option maxRecDepth 100000 in
set_option maxHeartbeats 8000000 in
theorem lzWalk (A : Option Addr) (cap : Nat) (rows : List (List PChange)) (hl12 : rows.length ≤ 12) (c : PCfg) (hR : c.Right) (w : World) (hr : ChRws w w.heap.size A rows) :
    Calls Tryz.prog 6 #[c.val, .slice A rows.length cap] w fun e w' => e = .returned (.bool true) ∧ Below w.heap.size w w' := by
  have hCV : c.val = .agg #[.int .i64 c.cap, .int .i64 c.pins, .int .i64 c.shelves, .int .i64 c.queue, .int .i64 c.watchers, .int .u64 c.seed] := rfl
  have hRR := fun W => right_cfg c W
  rw [(PCfg.right_iff c).2 hR] at hRR
  have hz : Below w.heap.size w (w.alloc (.cells #[.int .i64 c.cap, .int .i64 c.pins, .int .i64 c.shelves, .int .i64 c.queue, .int .i64 c.watchers, .int .u64 c.seed] 24)) := (Below.refl _ _).alloc (Nat.le_refl _) _
  have B0 := Blk.new w 24 #[.int .i64 c.cap, .int .i64 c.pins, .int .i64 c.shelves, .int .i64 c.queue, .int .i64 c.watchers, .int .u64 c.seed]
  have hFd := fun W => field_any c hR W
  have hNv := fun n hn W => viewNew_at c n hn W
  have hLn : ∀ (k : Nat) (row : List PChange) (A' : Option Addr) (c' : Nat), k < 13 → row.length ≤ 6 → Reads w w.heap.size 3 A' row.length (chL row) → (∀ ch ∈ row, ch.key.size ≤ 100 ∧ ch.value.size ≤ 200) → ∀ W, Below w.heap.size w W → _ := fun k row A' c' hk hrl hrr hsm W (h : Below w.heap.size w W) => lnNew_at c hR ((k : Int) + 1) ⟨by omega, by omega⟩ (w := W) A' row.length c' row rfl (by omega) ((hrr.below h).more h.size) (fun ch hch => by have := hsm ch hch; omega)
  have d12 : decide ((12 : Int) < (rows.length : Int)) = false := by simp; omega
  rw [hCV] at hRR hFd hNv hLn ⊢
  clear hCV
  generalize hlen : rows.length = len at *
  replace hRR := Lib.hid hRR
  replace hFd := Lib.hid hFd
  replace hNv := Lib.hid hNv
  replace hLn := Lib.hid hLn
  replace hr := Lib.hid hr
  replace hz := Lib.hid hz
  replace B0 := Lib.hid B0
  replace hlen := Lib.hid hlen
  have c0 := B0.out.cell 0
  have c1 := B0.out.cell 1
  have c2 := B0.out.cell 2
  have c3 := B0.out.cell 3
  have c4 := B0.out.cell 4
  have c5 := B0.out.cell 5
  go_enter Tryz.func6, Tryz.ntmps6
  go_wp2_with fail
  refine (hRR.out _).mono ?_; rintro e w1 ⟨rfl, hb1⟩
  have C1 := B0.out.below hb1 (by simp)
  have hz1 := nx hz.out (Nat.le_refl _) hb1
  clear hb1 c0 c1 c2 c3 c4 c5
  have c0 := C1.cell 0
  have c1 := C1.cell 1
  have c2 := C1.cell 2
  have c3 := C1.cell 3
  have c4 := C1.cell 4
  have c5 := C1.cell 5
  replace C1 := Lib.hid C1
  replace hz1 := Lib.hid hz1
  go_wp2_with fail
  refine (hFd.out _).mono ?_; rintro e w2 ⟨hb, r, rfl, s2⟩
  obtain ⟨F2, o2⟩ := Own.of_sess s2
  have hcw := C1.out.lt
  have hhb := o2.below.size
  have k2 : OwnK w1 hb (fieldS c r) F2 [(w.heap.size, cfgO c)] w2 := ⟨o2, fun x hx => by
    rw [List.mem_singleton.1 hx]
    exact ⟨C1.out.below o2.below hcw, fun h => by have := o2.new _ h; simp only at this; omega⟩⟩
  have k3 := (k2.add (.cells #[] 90)).add (.cells #[] 90)
  rw [show (w2.alloc (.cells #[] 90)).heap.size = w2.heap.size + 1 from World.size_alloc _ _] at k3
  clear s2 c0 c1 c2 c3 c4 c5
  replace o2 := Lib.hid o2
  replace k2 := Lib.hid k2
  replace k3 := Lib.hid k3
  go_wp2_with fail
  go_loopw [6, 7, 8] (fun mv kv iv wr => LZ1 w w1 len c hb mv kv iv wr) (fun _ _ i _ => len + 1 - (intOf i).toNat)
  case atStart => exact ⟨0, _, F2, _, _, [], [], _, _, _, _, Nat.zero_le _, rfl, PRow.nil _, PRow.nil _, k3.out, field_laid c hR r, know_none c _, rises_nil, Nat.zero_le _, fun _ => Nat.zero_le _, fun p v hv => (by cases hv), fun p t ht => (by cases ht), Nat.zero_le _, by show (1 : Int) ≤ _; omega, by omega, by omega⟩
  case round =>
    clear k3
    obtain ⟨k, S, F, tx, st, m, km, g, gk, o, ok, hk, rfl, hm, hkm, hO, hL, hkn, hri, hml, hst, hep, hky, hkl, hla, hgw, hgkw⟩ := hrel
    obtain ⟨cp, rfl⟩ := hm.slice
    obtain ⟨cpk, rfl⟩ := hkm.slice
    by_cases hlt : k < len
    · have d1 : decide ((k : Int) < (len : Int)) = true := by simp; omega
      have i1 : (0 : Int) ≤ (k : Int) := by omega
      have i2 : (k : Int) < (len : Int) := by omega
      have hl63 : (k : Int) + 1 ≤ 9223372036854775807 := by omega
      obtain ⟨row, hrow⟩ : ∃ row, rows[k]? = some row := ⟨_, List.getElem?_eq_getElem (by have := hlen.out; omega)⟩
      obtain ⟨ad, rfl, hadb, hcs⟩ := hr.out (by have := hlen.out; omega)
      obtain ⟨A', c', q1, q2, q3, q4⟩ := hcs k row hrow
      have hbw : ∀ (W : World) (S : PHeap) (F : Nat → Prop) (K : List (Nat × Obj)), OwnK w1 hb S F K W → Below w.heap.size w W := fun W S F K h => al1_below hz1.out h
      have hq : ∀ W, Below w.heap.size w W → W.cell? (ad.add k) = some (.slice A' row.length c') := fun W h => keepc h hadb q1
      have q0 := hq _ (hbw _ _ _ _ hO)
      have hSh : ∀ W, Below w.heap.size w W → _ := fun W (h : Below w.heap.size w W) => short30_any A' row.length c' row rfl (by omega) 6 (by decide) W ((q4.below h).more h.size)
      replace hbw := Lib.hid hbw
      replace hq := Lib.hid hq
      replace hSh := Lib.hid hSh
      replace hrow := Lib.hid hrow
      replace hO := Lib.hid hO
      clear q1 hcs
      have hbr := hbw.out _ _ _ _ hO.out
      go_wp2_with fail
      refine (hSh.out _ hbr).mono ?_; rintro e w5 ⟨fb, rfl, hfb, rfl⟩
      replace hbr := Lib.hid hbr
      cases fb with
      | false =>
        clear hfb
        go_wp2_with fail
        refine (awake30 _).mono ?_; rintro e w19 ⟨rfl, hb19⟩
        go_wp2_with fail
        go_ret
        exact ⟨rfl, Below.next_ hbr.out hb19⟩
      | true =>
      obtain ⟨hr6, hsm⟩ := hfb rfl
      clear hfb
      replace hsm := Lib.hid hsm
      go_wp2_with fail
      go_loopw [7, 9] (fun kv iv wr => LZ2 w w1 c hb g o S F row km kv iv wr) (fun _ i _ => row.length + 1 - (intOf i).toNat)
      case atStart => exact ⟨0, km, gk, ok, Nat.zero_le _, rfl, hkm, hO.out, fun t h => h, fun ch h => (by cases h), by omega, hgkw⟩
      case round =>
        clear q0
        obtain ⟨j, km1, gk1, ok1, hj, rfl, hkm1, hO1, hsub, hin, hkl1, hgk1⟩ := hrel
        obtain ⟨cp1, rfl⟩ := hkm1.slice
        have hw1 := hbw.out _ _ _ _ hO1
        have q0 := hq.out _ hw1
        by_cases hjt : j < row.length
        · have e1 : decide ((j : Int) < (row.length : Int)) = true := by simp; omega
          have j1 : (0 : Int) ≤ (j : Int) := by omega
          have j2 : (j : Int) < (row.length : Int) := by omega
          have jl63 : (j : Int) + 1 ≤ 9223372036854775807 := by omega
          obtain ⟨ad', ch, rfl, hadb', hch, hc⟩ := chL_cells q4 rfl hjt
          obtain ⟨r0, -, -⟩ := hc _ hw1
          obtain ⟨ky, hs, vl⟩ := ch
          simp only at r0
          have hPt : ∀ W, OwnK w1 hb S F [(gk1, ok1), (g, o), (w.heap.size, cfgO c)] W → Calls Tryz.prog 23 #[.slice (some ⟨gk1, 0, none⟩) km1.length cp1, .string ky, .string ⟨#[]⟩] W _ := fun W h => put_any (cap := cp1) ky ⟨#[]⟩ rfl (by omega) (hkm1.reads (h.keep _ (List.mem_cons_self ..)).1).2
          have hpl : (putP (geP ky) ky (⟨#[]⟩ : ByteArray) km1 false).length ≤ km1.length + 1 := by simpa using putP_len (geP ky) ky (⟨#[]⟩ : ByteArray) km1 false
          clear hc
          replace hPt := Lib.hid hPt
          replace hO1 := Lib.hid hO1
          replace hch := Lib.hid hch
          replace hkm1 := Lib.hid hkm1
          replace hsub := Lib.hid hsub
          replace hin := Lib.hid hin
          go_wp2_with fail
          refine (hPt.out _ (by first | exact hO1.out | exact hO1.out.drew | exact hO1.out.drewN _)).mono ?_; rintro e w6 ⟨v6, g6, o6, rfl, hp6, hg6, hge6, hb6⟩
          have hgw6 : w1.heap.size ≤ g6 := Nat.le_trans hO1.out.own.below.size hge6
          have oE : OwnK w1 hb S F [(g6, o6), (g, o), (w.heap.size, cfgO c)] w6 := by first | exact hO1.out.swap_ hb6 hg6 hge6 (fun x hx => List.mem_cons_of_mem _ hx) | exact hO1.out.drew.swap_ hb6 hg6 hge6 (fun x hx => List.mem_cons_of_mem _ hx) | exact (hO1.out.drewN _).swap_ hb6 hg6 hge6 (fun x hx => List.mem_cons_of_mem _ hx)
          obtain ⟨cp6, rfl⟩ := hp6.slice
          clear hg6 hge6 hb6
          replace oE := Lib.hid oE
          replace hp6 := Lib.hid hp6
          go_wp2_with fail
          go_roundw
          case rel =>
            have oF := (by first | exact oE.out | exact oE.out.drew | exact oE.out.drewN _ : OwnK w1 hb S F [(g6, o6), (g, o), (w.heap.size, cfgO c)] _)
            exact ⟨j + 1, _, g6, o6, by omega, by go_num, hp6.out, oF, fun t h => (put_keys km1 ky _ t).2 (.inr (hsub.out t h)), fun x hx => (put_keys km1 ky _ x.key).2 (by
              rw [List.take_add_one, hch.out] at hx
              rcases List.mem_append.1 hx with h | h
              · exact .inr (hin.out x h)
              · rw [List.mem_singleton.1 h]
                exact .inl rfl), by omega, hgw6⟩
          case measure => simp [intOf]; omega
        · obtain rfl : j = row.length := by omega
          have e1 : decide (((row.length : Nat) : Int) < (row.length : Int)) = false := by simp
          rw [List.take_length] at hin
          obtain ⟨p0, p1, p2, p3, p4, p5⟩ := cfg_cells hO1 (b := w.heap.size) (c := c) (by simp)
          replace hw1 := Lib.hid hw1
          replace hO1 := Lib.hid hO1
          replace hkm1 := Lib.hid hkm1
          replace hsub := Lib.hid hsub
          replace hin := Lib.hid hin
          by_cases hful : c.shelves < (km1.length : Int)
          · have e2 : decide (c.shelves < (km1.length : Int)) = true := by simpa using hful
            go_wp2_with fail
            refine (awake30 _).mono ?_; rintro e w19 ⟨rfl, hb19⟩
            go_wp2_with fail
            go_ret
            exact ⟨rfl, Below.next_ hw1.out hb19⟩
          · have e2 : decide (c.shelves < (km1.length : Int)) = false := by simpa using hful
            have hKLn : ((KeysOf km1).length : Int) ≤ c.shelves := by
              unfold KeysOf
              rw [List.length_map]
              omega
            have hN := hLn.out k row A' c' (by omega) (by omega) q4 hsm.out
            have hwk : IntKind.u64.wrap ((k : Int) + 1) = (k : Int) + 1 := by rw [IntKind.wrap_u64]; omega
            replace hN := Lib.hid hN
            replace hKLn := Lib.hid hKLn
            go_wp2_with fail
            go_still_tail 8, (by kernel_rfl)
            change wpList _ _ _ _ _ wr.drew
            go_wp2_with fail
            refine (hN.out _ hw1.out.drew).mono ?_; rintro e w3 ⟨b3, rfl, hR3, hb3⟩
            have k3 := hO1.out.drew.below hb3
            have R3 : RAt layRout wr.heap.size w3 b3 (newLay c ((k : Int) + 1) row) := hR3
            have hA3 := ralone layRout k3 R3 hO1.out.own.heap.own (fun x hx => hO1.out.lt hx) hO1.out.own.below.size (by rw [hL.faults]; decide) (by omega) 10000 (by decide)
            clear hb3 hR3 p0 p1 p2 p3 p4 p5 q0 hN
            replace k3 := Lib.hid k3
            replace R3 := Lib.hid R3
            replace hA3 := Lib.hid hA3
            go_wp2_with fail
            refine (hA3.out).mono ?_; rintro e w4 ⟨xs, S4, s4, F4, D4, hRun, hstop, rfl, k4, hR4, hoff4⟩
            obtain ⟨tx4, st4, h41, h42, h8, hl4⟩ : ∃ tx4 st4, Laid S4 c tx4 st4 (fun _ => 0) ((k : Int) + 1) ∧ JK c (6 * (k + 1)) ((k : Int) + 1) m row (KeysOf km1) [] none s4.laid tx4 st4 ∧ s4.part = 8 ∧ S4.last ≤ S.last + 900 := by
              obtain ⟨n0, g1, g2, g3, g4, g5⟩ := lst_start hR (ep := (k : Int) + 1) (S := S) (tx := tx) (st := st) (pn := fun _ => 0) (e := (k : Int)) (l := row) (fun ch hch => by have := hsm.out ch hch; omega) (by omega)
              obtain ⟨tx4, st4, j1, j2, j3, j4⟩ := lst_run hR (jk_law c hR (6 * (k + 1)) ((k : Int) + 1) m row (KeysOf km1) hKLn.out hin.out) xs hL (by rw [g4, g3]; exact JK.start hkn (fun p t h => hsub.out t (hky p t h)) hep hst (by omega)) (fun h => absurd h g5) g1 hRun hstop (by omega)
              have hbd := (Runs.bounds layRout hRun).2
              exact ⟨tx4, st4, j1, j2, j3, by omega⟩
            have hrs := lnResult_any hR4.2.2
            rw [if_pos h8, decide_eq_true h8] at hrs
            have h82 := ln_eight h8
            obtain ⟨hnl, hkn4, hst4⟩ := h42.fin
            have hky4 := h42.keys
            have hep4 := h42.epo
            rw [hnl] at hrs
            rw [h82]
            have hw4 := hbw.out _ _ _ _ k4
            have q0 := hq.out _ hw4
            have hft4 := h41.faults
            clear hRun hstop hA3 hoff4 hR4 h42 h8 h82 hnl k3 R3
            replace k4 := Lib.hid k4
            replace h41 := Lib.hid h41
            replace hkn4 := Lib.hid hkn4
            replace hky4 := Lib.hid hky4
            replace hep4 := Lib.hid hep4
            replace hst4 := Lib.hid hst4
            replace hrs := Lib.hid hrs
            replace hw4 := Lib.hid hw4
            replace hft4 := Lib.hid hft4
            simp only [Bool.not_false]
            go_wp2_with fail
            refine (hrs.out).mono ?_; rintro e w5 ⟨rfl, hb5⟩
            have k5 := k4.out.below hb5
            have hw5 := hbw.out _ _ _ _ k5
            have q0' := hq.out _ hw5
            clear q0 hb5 hrs
            replace k5 := Lib.hid k5
            replace hw5 := Lib.hid hw5
            have hPa : ∀ W, OwnK w1 hb S4 F4 [(gk1, ok1), (g, o), (w.heap.size, cfgO c)] W → Calls Tryz.prog 35 #[.slice (some ⟨g, 0, none⟩) m.length cp, .slice A' row.length c'] W _ := fun W h => patch07_any hm (h.keep (g, o) (by simp)).1 (by omega) hri rfl (by omega) ((q4.below (hbw.out _ _ _ _ h)).more (hbw.out _ _ _ _ h).size)
            replace hPa := Lib.hid hPa
            go_wp2_with fail
            refine (hPa.out _ k5.out).mono ?_; rintro e w6 ⟨v6, g6, o6, rfl, hp6, hg6, hgs6, hb6⟩
            have k6 : OwnK w1 hb S4 F4 [(g6, o6), (gk1, ok1), (w.heap.size, cfgO c)] w6 := k5.out.turn_ hb6 hg6 (g0 := g) (o0 := o) (by simp) hgs6 (fun x hx => by
              rcases List.mem_cons.1 hx with hx | hx
              · exact List.mem_cons.2 (.inl hx)
              · exact List.mem_cons_of_mem _ (List.mem_cons_of_mem _ hx))
            have hg6' : w1.heap.size ≤ g6 := by
              rcases hgs6 with rfl | h
              · exact hgw
              · exact Nat.le_trans k5.out.own.below.size h
            obtain ⟨cp6, rfl⟩ := hp6.slice
            obtain ⟨p0, p1, p2, p3, p4, p5⟩ := cfg_cells k6 (b := w.heap.size) (c := c) (by simp)
            have hri6 := patchP_rises row hri
            have hml6 := patchP_len row m
            have hNv1 := hNv.out (k : Int) ⟨by omega, by omega⟩
            clear hPa hg6 hgs6 hb6 k4 k5 q0'
            replace k6 := Lib.hid k6
            replace hp6 := Lib.hid hp6
            replace hri6 := Lib.hid hri6
            replace hml6 := Lib.hid hml6
            replace hNv1 := Lib.hid hNv1
            go_wp2_with fail
            refine (hNv1.out _).mono ?_; rintro e w7 ⟨b7, rfl, hR7, hb7⟩
            have k7 := k6.out.below hb7
            have hA7 := ralone viewRout k7 hR7 k6.out.own.heap.own (fun x hx => k6.out.lt hx) k6.out.own.below.size (by rw [hft4.out]; decide) (by omega) 10000 (by decide)
            clear hb7 hNv1 p0 p1 p2 p3 p4 p5
            replace k7 := Lib.hid k7
            replace hR7 := Lib.hid hR7
            replace hA7 := Lib.hid hA7
            go_wp2_with fail
            refine (hA7.out).mono ?_; rintro e w8' ⟨xs7, S7, s7, F7, D7, hRun, hstop, rfl, k8, hR8, hoff8⟩
            obtain ⟨h61, h62, h63, h64, h65, h66, _, _, _⟩ := view_alone2 hR (by omega) h41.out (fun _ _ => rfl) 72 (by decide) (fun j => Nat.le_trans (hst4.out j) (by omega)) hRun hstop (view_most72 hR)
            have hRs := viewTold_any hR8.2.2
            unfold ViewTold at hRs
            rw [show PView.out _ = patchP m row from by unfold PView.out; rw [h62, if_pos rfl, h63]; exact seen_is hR hkn4.out hri6.out, h62, h64] at hRs
            simp only [h61, if_true] at hRs
            have hl7 : S7.last ≤ S.last + 900 := by rw [h66]; exact hl4
            clear hRun hstop hA7 h61 h62 h63 h64 h66 hoff8 hR8 hR7 k7
            replace k8 := Lib.hid k8
            replace hRs := Lib.hid hRs
            replace h65 := Lib.hid h65
            go_wp2_with fail
            refine (hRs.out).mono ?_; rintro e w8 ⟨vA, vc, rfl, hown, hb8⟩
            have k9 := (k8.out.below hb8).add (.cells #[.int .i64 0, .int .i64 0, .int .i64 0, .bool false, .string ⟨#[]⟩, .slice vA (patchP m row).length vc, .int .i64 0, .slice none 0 0, .int .i64 3, .int .u64 0] 42)
            have hTe := Blk.new w8 42 #[.int .i64 0, .int .i64 0, .int .i64 0, .bool false, .string ⟨#[]⟩, .slice vA (patchP m row).length vc, .int .i64 0, .slice none 0 0, .int .i64 3, .int .u64 0]
            have u5 := hTe.cell 5
            have hrA := (Reads.of_own hown).alloc (Nat.le_refl _) (.cells #[.int .i64 0, .int .i64 0, .int .i64 0, .bool false, .string ⟨#[]⟩, .slice vA (patchP m row).length vc, .int .i64 0, .slice none 0 0, .int .i64 3, .int .u64 0] 42)
            have hrB := (hp6.out.reads (k9.keep (g6, o6) (by simp)).1).2
            have hml7 := hml6.out
            have hSm := same06_any (cap := vc) (cap' := cp6) rfl (by omega) (hrA.more (by simp)) hrB
            clear hb8 hRs hown hTe hrA hrB k8
            replace k9 := Lib.hid k9
            replace hSm := Lib.hid hSm
            go_wp2_with fail
            refine (hSm.out).mono ?_; rintro e w10 ⟨rfl, hb10⟩
            have k10 := (k9.out.below hb10).sub (K' := [(gk1, ok1), (g6, o6), (w.heap.size, cfgO c)]) (fun x hx => by
              simp only [List.mem_cons, List.not_mem_nil, or_false] at hx ⊢
              rcases hx with rfl | rfl | rfl
              · exact .inr (.inr (.inl rfl))
              · exact .inr (.inl rfl)
              · exact .inr (.inr (.inr rfl)))
            clear hb10 hSm u5
            replace k10 := Lib.hid k10
            go_wp2_with fail
            go_roundw
            case rel => exact ⟨k + 1, S7, F7, tx4, st4, patchP m row, km1, g6, gk1, o6, ok1, by omega, by go_num, hp6.out, hkm1.out, k10.out, by have := h65.out; simpa using this, by have := hkn4.out; simpa using this, hri6.out, by omega, hst4.out, by have := hep4.out; simpa using this, hky4.out, by omega, by omega, hg6', hgk1⟩
            case measure => simp [intOf]; omega
    · have d1 : decide ((k : Int) < (len : Int)) = false := by simp; omega
      have hFa := faults_ownK hO hL.faults
      have hw' : Below w.heap.size w wr := al1_below hz1.out hO
      replace hFa := Lib.hid hFa
      replace hw' := Lib.hid hw'
      go_wp2_with fail
      refine (hFa.out _ hO).mono ?_; rintro e w18 ⟨rfl, rfl⟩
      go_wp2_with fail
      refine (awake30 _).mono ?_; rintro e w19 ⟨rfl, hb19⟩
      go_wp2_with fail
      go_ret
      exact ⟨rfl, Below.next_ hw'.out hb19⟩
theorem lzWalk30 (A : Option Addr) (len cap : Nat) (rows : List (List PChange)) (hlen : rows.length = len) (c : PCfg) (w : World) (hr : ChRws w w.heap.size A rows) :
    Calls Tryz.prog 6 #[c.val, .slice A len cap] w fun e w' => e = .returned (.bool true) ∧ Below w.heap.size w w' := by
  subst hlen
  cases hright : c.right with
  | false => exact lzSmall A rows.length cap c (.inl hright) w
  | true =>
    by_cases hl : rows.length ≤ 12
    · exact lzWalk A cap rows hl c ((PCfg.right_iff c).1 hright) w hr
    · exact lzSmall A rows.length cap c (.inr ⟨hright, by omega⟩) w
end Go.Proofs.YtmlnhjfdhjachaaGreat
