/-
  The walk over the law that who finds no room puts nothing (layer 29). No condition.
-/
import Derived.Test.YtfelkkbgbgnpaaaHandK
import Derived.Test.YtfelkkbgbgnpaaaCopy
namespace Go.Proofs.Ytfelkkbgbgnpaaa
set_option linter.unusedVariables false
open Go.ChangeShapes Go.WideShapes Go.ChangeAt Go.RowKit
open Go.ChangeMaps (setBlock)

/-- The word behind k who have come in. -/
theorem word_k (k : Nat) (hk : k ≤ 32) : cameOf (65537 * (k : Int)) = k ∧ ∀ m : Int, 1 ≤ m → m ≤ 32 → (entOk (65537 * (k : Int)) m = decide ((k : Int) < m)) ∧ ((k : Int) < m → entV (65537 * (k : Int)) m = 65537 * ((k + 1 : Nat) : Int)) := by
  have h0 : 65537 * (k : Int) / 65536 = k := by omega
  have h1 : cameOf (65537 * (k : Int)) = k := by unfold cameOf; rw [h0]; omega
  have h2 : inOf (65537 * (k : Int)) = k := by unfold inOf; omega
  refine ⟨h1, fun m hm1 hm2 => ?_⟩
  have h3 : entOk (65537 * (k : Int)) m = decide ((k : Int) < m) := by
    unfold entOk
    rw [h1, h2, packOk_t (by omega)]
    simp
  refine ⟨h3, fun hlt => ?_⟩
  unfold entV
  rw [h3, if_pos (by simpa using hlt), h1, h2]
  omega
/-- Behind k who have come in. -/
structure FullS (c : PCfg) (k : Nat) (S : PHeap) : Prop where
  word : CtlAt S 1 (65537 * (k : Int))
  all : ∀ j : Nat, j < ctlSize c → ∃ y, CtlAt S j y
  last : S.last = 1 + (k : Int)
  faults : S.faults = 0
  len : S.blocks.length = 1 + k
theorem FullS.start (c : PCfg) (hc : c.Right) (r : Nat) : FullS c 0 (fieldS c r) :=
  ⟨by have := ctlSize_eq hc; exact field_ctl c r 1 (by omega), fun j hj => ⟨0, field_ctl c r j hj⟩, rfl, rfl, rfl⟩
theorem FullS.ring {c : PCfg} {k : Nat} {S : PHeap} (h : FullS c k S) (hc : c.Right) : ∀ j : Nat, 3 + c.pins ≤ j → (j : Int) < 3 + c.pins + c.cap → ∃ y, CtlAt S j y := fun j h1 h2 => h.all j (by have := ctlSize_eq hc; have := hc.shelves; omega)
theorem FullS.set {c : PCfg} {k : Nat} {S : PHeap} (h : ∀ j : Nat, j < ctlSize c → ∃ y, CtlAt S j y) (i : Nat) (v : Int) : ∀ j : Nat, j < ctlSize c → ∃ y, CtlAt (S.set 1 i v) j y := fun j hj => by
  obtain ⟨y, hy⟩ := h j hj
  by_cases e : i = j
  · subst e; exact ⟨v, hy.same v⟩
  · exact ⟨y, hy.other v e⟩
theorem FullS.next {c : PCfg} {k : Nat} {S : PHeap} (h : FullS c k S) (hc : c.Right) (hlt : (k : Int) < c.cap) (r : Nat) (t : ByteArray) (ri : Nat) (hri : ri ≠ 1) (v : Int) : FullS c (k + 1) (((S.moreN 2 r t).set 1 1 (entV (65537 * (k : Int)) c.cap)).set 1 ri v) := by
  have hw := (word_k k (by have := hc.cap; omega)).2 c.cap hc.cap.1 hc.cap.2
  refine ⟨?_, ?_, ?_, h.faults, ?_⟩
  · rw [hw.2 hlt]
    exact ((h.word.moreN 2 r t).same _).other v hri
  · exact FullS.set (k := k) (FullS.set (k := k) (fun j hj => (h.all j hj).imp fun y hy => hy.moreN 2 r t) 1 _) ri v
  · show S.last + 1 = _
    rw [h.last]
    omega
  · show (List.map _ (List.map _ (S.blocks ++ [_]))).length = _
    simp only [List.length_map, List.length_append, List.length_cons, List.length_nil, h.len]
    omega
/-- Between two rounds of the first loop. -/
def Fu1 (w1 : World) (hb : Nat) (c : PCfg) (iv : Value) (wr : World) : Prop := ∃ (k : Nat) (S : PHeap) (F : Nat → Prop), (k : Int) ≤ c.cap ∧ iv = .int .i64 k ∧ Own w1 hb S F wr ∧ FullS c k S
/-- .. of the second one. -/
def Fu2 (w1 : World) (hb cb : Nat) (c : PCfg) (S T : PHeap) (iv : Value) (wr : World) : Prop := ∃ (k : Nat) (F G : Nat → Prop), k ≤ ctlSize c ∧ iv = .int .i64 k ∧ Own w1 hb S F wr ∧ HeapIn wr cb T G ∧ Off F G ∧ (∀ k, G k → w1.heap.size ≤ k)
theorem alike_ctl {S T : PHeap} (a : Alike T S) (hk : (S.blocks.map (·.key)).Nodup) {i : Nat} {y : Int} (h : CtlAt S i y) : CtlAt T i y := by
  obtain ⟨b, h1, h2, h3⟩ := h
  have hm := find_mem h1
  have : b.bare3 ∈ T.blocks.map PBlk.bare3 := a.blocks.symm.subset (List.mem_map.2 ⟨b, hm.1, rfl⟩)
  obtain ⟨x, hx, he⟩ := List.mem_map.1 this
  unfold PBlk.bare3 at he
  simp only [Prod.mk.injEq] at he
  have hkT : (T.blocks.map (·.key)).Nodup := by
    have := a.blocks.map (·.1)
    simp only [List.map_map] at this
    exact this.nodup_iff.2 hk
  have hf : T.find 1 = some x := by
    cases hf : T.find 1 with
    | none =>
      unfold PHeap.find at hf
      rw [List.find?_eq_none] at hf
      exact absurd (by rw [he.1, hm.2]; rfl) (hf x hx)
    | some z =>
      obtain ⟨g1, g2⟩ := find_mem hf
      rw [eq_of_key hkT g1 hx (by rw [g2, he.1, hm.2])]
  refine ⟨x, hf, by rw [he.2.1]; exact h2, ?_⟩
  unfold PBlk.nth at h3 ⊢
  rw [he.2.1]
  exact h3
set_option maxRecDepth 100000 in
set_option maxHeartbeats 4000000 in
theorem walkFull29 (c : PCfg) (text : ByteArray) (w : World) :
    Calls Try.prog 8 #[c.val, .string text] w fun e w' => e = .returned (.bool true) ∧ Below w.heap.size w w' := by
  have hRi := fun W => right_cfg c W
  have hv : c.val = .agg #[.int .i64 c.cap, .int .i64 c.pins, .int .i64 c.shelves, .int .i64 c.queue, .int .i64 c.watchers, .int .u64 c.seed] := rfl
  have B1 := Blk.new w 24 #[.int .i64 c.cap, .int .i64 c.pins, .int .i64 c.shelves, .int .i64 c.queue, .int .i64 c.watchers, .int .u64 c.seed]
  have hz1 : Below w.heap.size w (w.alloc (.cells #[.int .i64 c.cap, .int .i64 c.pins, .int .i64 c.shelves, .int .i64 c.queue, .int .i64 c.watchers, .int .u64 c.seed] 24)) := Below.more_ (Below.refl _ _) _
  cases hcr : c.right with
  | false =>
    rw [hcr, hv] at hRi
    rw [hv]
    replace hRi := Lib.hid hRi
    clear hv B1
    replace hz1 := Lib.hid hz1
    go_enter Try.func8, Try.ntmps8
    go_wp2_with fail
    refine (hRi.out _).mono ?_; rintro e w2 ⟨rfl, hb2⟩
    go_wp2_with fail
    refine (awake29 _).mono ?_; rintro e w7 ⟨rfl, hb7⟩
    go_wp2_with fail
    go_ret
    exact ⟨rfl, Below.next_ (Below.next_ hz1.out hb2) hb7⟩
  | true =>
    have hc := (PCfg.right_iff c).1 hcr
    have hFd := fun W => field_any c hc W
    have hSz := fun W => planSize_any c hc W
    rw [hcr] at hRi
    by_cases ht : (200 : Int) < (text.size : Int)
    · have d1 : decide ((200 : Int) < (text.size : Int)) = true := by simpa using ht
      rw [hv] at hRi
      rw [hv]
      replace hRi := Lib.hid hRi
      clear hFd hv B1 hSz
      replace hz1 := Lib.hid hz1
      replace hc := Lib.hid hc
      replace hcr := Lib.hid hcr
      go_enter Try.func8, Try.ntmps8
      go_wp2_with fail
      refine (hRi.out _).mono ?_; rintro e w2 ⟨rfl, hb2⟩
      go_wp2_with fail
      refine (awake29 _).mono ?_; rintro e w7 ⟨rfl, hb7⟩
      go_wp2_with fail
      go_ret
      exact ⟨rfl, Below.next_ (Below.next_ hz1.out hb2) hb7⟩
    · have d1 : decide ((200 : Int) < (text.size : Int)) = false := by simpa using ht
      have hNw := fun W => handNew_any c text (by omega) W
      have htx : text.size ≤ 4096 := by omega
      rw [hv] at hRi hFd hSz hNw
      rw [hv]
      replace hRi := Lib.hid hRi
      replace hFd := Lib.hid hFd
      replace hSz := Lib.hid hSz
      replace hNw := Lib.hid hNw
      clear hv
      replace hz1 := Lib.hid hz1
      replace hc := Lib.hid hc
      replace hcr := Lib.hid hcr
      replace B1 := Lib.hid B1
      replace htx := Lib.hid htx
      go_enter Try.func8, Try.ntmps8
      go_wp2_with fail
      refine (hRi.out _).mono ?_; rintro e w2 ⟨rfl, hb2⟩
      have C1 := B1.out.below hb2 (by simp)
      have hz2 := Below.next_ hz1.out hb2
      clear B1 hz1 hb2
      have hcw := C1.lt
      have c0 := C1.cell 0
      have c1 := C1.cell 1
      have c2 := C1.cell 2
      have c3 := C1.cell 3
      have c4 := C1.cell 4
      have c5 := C1.cell 5
      have hcf : ∀ W, Below w2.heap.size w2 W → (W.cell? ⟨w.heap.size, 0, none⟩ = some (.int .i64 c.cap) ∧ W.cell? ⟨w.heap.size, 1, none⟩ = some (.int .i64 c.pins) ∧ W.cell? ⟨w.heap.size, 2, none⟩ = some (.int .i64 c.shelves) ∧ W.cell? ⟨w.heap.size, 3, none⟩ = some (.int .i64 c.queue) ∧ W.cell? ⟨w.heap.size, 4, none⟩ = some (.int .i64 c.watchers) ∧ W.cell? ⟨w.heap.size, 5, none⟩ = some (.int .u64 c.seed)) := fun W h => by
        have hB := C1.below h hcw
        exact ⟨hB.cell 0, hB.cell 1, hB.cell 2, hB.cell 3, hB.cell 4, hB.cell 5⟩
      replace hcf := Lib.hid hcf
      replace C1 := Lib.hid C1
      replace hz2 := Lib.hid hz2
      go_wp2_with fail
      refine (hFd.out _).mono ?_; rintro e w3 ⟨hb, r, rfl, s3⟩
      obtain ⟨F3, o3⟩ := Own.of_sess s3
      clear s3 c0 c1 c2 c3 c4 c5 hFd
      replace o3 := Lib.hid o3
      go_wp2_with fail
      go_loopw [6] (fun iv wr => Fu1 w2 hb c iv wr) (fun i _ => c.cap.toNat + 1 - (intOf i).toNat)
      case atStart => exact ⟨0, _, _, by have := hc.out.cap; omega, rfl, o3.out, FullS.start c hc.out r⟩
      case round =>
        clear o3
        obtain ⟨k, S, F, hk, rfl, oA, fS⟩ := hrel
        obtain ⟨c0, c1, c2, c3, c4, c5⟩ := hcf.out _ oA.below
        have hoF := oA.heap.own
        by_cases hlt : (k : Int) < c.cap
        · have d2 : decide ((k : Int) < c.cap) = true := by simpa using hlt
          replace oA := Lib.hid oA
          replace fS := Lib.hid fS
          replace hoF := Lib.hid hoF
          go_wp2_with fail
          refine (hNw.out _).mono ?_; rintro e w4 ⟨b, rfl, hN4, hbb, hb4⟩
          have hbl4 := hN4.lt
          have oB := oA.out.keep hb4
          have hA := alone_own handRout oB (handR_fresh hbb hbl4 hN4) (fun k h1 h2 => by have := hoF.out k h1; omega) (fun k hk => by have := oA.out.below.size; omega) (by rw [fS.out.faults]; decide) (by rw [fS.out.last]; have := hc.out.cap; omega) 99 (by decide)
          have hsz4 := hb4.size
          clear c0 c1 c2 c3 c4 c5 oB hb4
          replace hA := Lib.hid hA
          replace hN4 := Lib.hid hN4
          go_wp2_with fail
          refine (hA.out).mono ?_; rintro e w5 ⟨xs, S5, s5', F5, D5, hRun, hstop, _, rfl, o5, hR5, _, _, _⟩
          obtain ⟨r5, hp5, hrec5, hcase5⟩ := hand_alone c hc.out text htx.out fS.out.word (fS.out.ring hc.out) hRun hstop (by decide)
          have hwk := word_k k (by have := hc.out.cap; omega)
          have hwm := hwk.2 c.cap hc.out.cap.1 hc.out.cap.2
          rcases hcase5 with ⟨_, hl, hfu, htk, hS5⟩ | ⟨hno, _⟩
          case inr => rw [hwm.1] at hno; simp at hno; omega
          rw [hwk.1] at htk hS5
          have hra := ringAt_ok hc.out k (by omega)
          have fS5 : FullS c (k + 1) S5 := by
            rw [hS5]
            exact fS.out.next hc.out hlt r5 text _ (by have := hc.out.pins; omega) _
          have hres := handResult_any hR5.2.2
          rw [show s5'.result = ((false, (k : Int), S.last + 1), true) from by unfold PHand.result; rw [if_pos hp5, hfu, htk, hrec5]] at hres
          clear hRun hstop hl hS5 hp5 hrec5 hfu htk hwk hwm hra hA hN4 hR5 oA fS
          replace hres := Lib.hid hres
          replace o5 := Lib.hid o5
          replace fS5 := Lib.hid fS5
          go_wp2_with fail
          refine (hres.out).mono ?_; rintro e w6 ⟨rfl, hb6⟩
          have o6 := (o5.out.keep hb6).alloc (.cells #[.bool false, .int .i64 k, .int .u64 (S.last + 1)] 81)
          clear hb6 hres o5
          replace o6 := Lib.hid o6
          have hcb : (k : Int) ≤ 31 := by have := hc.out.cap; omega
          go_wp2_with fail
          go_roundw
          case rel => exact ⟨k + 1, S5, _, by omega, by go_num, o6.out, fS5.out⟩
          case measure => simp [intOf]; omega
        · have d2 : decide ((k : Int) < c.cap) = false := by simpa using hlt
          have hkc : (k : Int) = c.cap := by omega
          have hCp := copy_any oA.heap
          have hkS := oA.heap.keys
          have hsp := oA.heap.span
          replace oA := Lib.hid oA
          replace fS := Lib.hid fS
          replace hoF := Lib.hid hoF
          replace hCp := Lib.hid hCp
          replace hkS := Lib.hid hkS
          replace hsp := Lib.hid hsp
          replace hkc := Lib.hid hkc
          go_wp2_with fail
          clear c0 c1 c2 c3 c4 c5
          refine (hCp.out).mono ?_; rintro e w4 ⟨cc, T, G, rfl, hT, hal, hG, hb4⟩
          have oB := oA.out.keep hb4
          obtain ⟨c0, c1, c2, c3, c4, c5⟩ := hcf.out _ oB.below
          have hFG : Off F G := fun k h1 h2 => by have := hoF.out k h1; have := hG k h2; omega
          have hG2 : ∀ k, G k → w2.heap.size ≤ k := fun k hk => Nat.le_trans oA.out.below.size (hG k hk)
          have hoF4 := oB.heap.own
          have hoG4 := hT.own
          clear hCp hb4 oA hG hoF
          replace oB := Lib.hid oB
          replace hT := Lib.hid hT
          replace hal := Lib.hid hal
          replace hFG := Lib.hid hFG
          replace hG2 := Lib.hid hG2
          replace hoF4 := Lib.hid hoF4
          replace hoG4 := Lib.hid hoG4
          go_wp2_with fail
          refine (hNw.out _).mono ?_; rintro e w5 ⟨b, rfl, hN5, hbb, hb5⟩
          have hbl5 := hN5.lt
          have hsz5 := hb5.size
          have oC := oB.out.keep hb5
          have hT5 := hT.out.below hb5
          have hA := alone_own handRout oC (handR_fresh hbb hbl5 hN5) (fun k h1 h2 => by have := hoF4.out k h1; omega) (fun k hk => by have := oB.out.below.size; omega) (by rw [fS.out.faults]; decide) (by rw [fS.out.last]; have := hc.out.cap; omega) 99 (by decide)
          clear c0 c1 c2 c3 c4 c5 oC hb5 oB hT
          replace hA := Lib.hid hA
          replace hN5 := Lib.hid hN5
          replace hT5 := Lib.hid hT5
          go_wp2_with fail
          refine (hA.out).mono ?_; rintro e w6 ⟨xs, S6, s6', F6, D6, hRun, hstop, _, rfl, o6, hR6, hnew6, hch6, _⟩
          obtain ⟨r6, hp6, hrec6, hcase6⟩ := hand_alone c hc.out text htx.out fS.out.word (fS.out.ring hc.out) hRun hstop (by decide)
          have hwk := word_k k (by have := hc.out.cap; omega)
          have hwm := hwk.2 c.cap hc.out.cap.1 hc.out.cap.2
          rcases hcase6 with ⟨hno, _⟩ | ⟨_, hl, hfu, htk, hS6⟩
          case inl => rw [hwm.1] at hno; simp at hno; omega
          have hres := handResult_any hR6.2.2
          rw [show s6'.result = ((true, 0, S.last + 1), true) from by unfold PHand.result; rw [if_pos hp6, hfu, htk, hrec6]] at hres
          rw [hl, show (!(handRout.act s6').2) = true from by show (!(PHand.act s6').2) = true; rw [PHand.act4 hp6]; rfl]
          have hT6 := hT5.out.off hch6 (fun j h1 h2 => by
            rcases h1 with h1 | h1
            · exact hFG.out j h1 h2
            · have := hoG4.out j h2; omega)
          have hFG6 : Off F6 G := fun j h1 h2 => by
            have h3 := hoG4.out j h2
            rcases hnew6 j (.inl h1) with h | h | h
            · exact hFG.out j h h2
            · omega
            · omega
          have hlen6 : S6.blocks.length = k + 2 := by
            rw [hS6]
            show (S.blocks ++ [_]).length = _
            simp only [List.length_append, List.length_cons, List.length_nil, fS.out.len]
            omega
          have hf6 : S6.faults = 0 := by rw [hS6]; exact fS.out.faults
          have hfd6 : S6.find (S.last + 1) = some ⟨S.last + 1, r6, List.replicate 2 0, text⟩ := by
            rw [hS6]
            exact moreN_new (fun x hx => (hsp.out x hx).2.1) 2 r6 text
          have hall : ∀ j : Nat, j < ctlSize c → ∃ y, CtlAt S6 j y ∧ CtlAt T j y := fun j hj => by
            obtain ⟨y, hy⟩ := fS.out.all j hj
            refine ⟨y, ?_, alike_ctl hal.out hkS.out hy⟩
            rw [hS6]
            exact hy.moreN 2 r6 text
          clear hRun hstop hl hS6 hp6 hrec6 hfu htk hwk hwm hA hN5 hR6 hT5 hFG hnew6 hch6 hal hkS hsp fS
          replace hres := Lib.hid hres
          replace o6 := Lib.hid o6
          replace hT6 := Lib.hid hT6
          replace hFG6 := Lib.hid hFG6
          replace hlen6 := Lib.hid hlen6
          replace hf6 := Lib.hid hf6
          replace hfd6 := Lib.hid hfd6
          replace hall := Lib.hid hall
          go_wp2_with fail
          refine (hres.out).mono ?_; rintro e w7 ⟨rfl, hb7⟩
          have hb7' : Below w6.heap.size w6 (w7.alloc (.cells #[.bool true, .int .i64 0, .int .u64 (S.last + 1)] 81)) := Below.more_ hb7 _
          have o7 := o6.out.keep hb7'
          have hT7 := hT6.out.below hb7'
          have hSi := size_any o7.heap (S.last + 1)
          rw [hfd6.out] at hSi
          rw [show ((Option.map (fun x => (x.cells.length : Int)) (some (⟨S.last + 1, r6, List.replicate 2 0, text⟩ : PBlk))).getD 0) = 2 from rfl] at hSi
          clear hb7 hb7' hres o6 hT6 hfd6
          replace o7 := Lib.hid o7
          replace hT7 := Lib.hid hT7
          replace hSi := Lib.hid hSi
          go_wp2_with fail
          refine (hSi.out).mono ?_; rintro e w8 ⟨rfl, rfl⟩
          clear hSi
          go_wp2_with fail
          go_loopw [16] (fun iv wr => Fu2 w2 hb cc c S6 T iv wr) (fun i _ => ctlSize c + 1 - (intOf i).toNat)
          case atStart => exact ⟨0, _, G, Nat.zero_le _, rfl, o7.out, hT7.out, hFG6.out, hG2.out⟩
          case round =>
            clear o7 hT7 hFG6
            obtain ⟨j, F8, G8, hj, rfl, o8, hT8, hFG8, hG8⟩ := hrel
            obtain ⟨c0, c1, c2, c3, c4, c5⟩ := hcf.out _ o8.below
            have hcs := ctlSize_eq hc.out
            replace o8 := Lib.hid o8
            replace hT8 := Lib.hid hT8
            replace hFG8 := Lib.hid hFG8
            replace hG8 := Lib.hid hG8
            rw [← hcs.1] at hSz
            replace hcs := Lib.hid hcs
            go_wp2_with fail
            refine (hSz.out _).mono ?_; rintro e w9 ⟨rfl, hb9⟩
            have o9 := o8.out.keep hb9
            have hT9 := hT8.out.below hb9
            clear hb9 o8 hT8 c0 c1 c2 c3 c4 c5
            by_cases hlj : j < ctlSize c
            · have d3 : decide ((j : Int) < ((ctlSize c : Nat) : Int)) = true := by simpa using hlj
              obtain ⟨y, hy1, hy2⟩ := hall.out j hlj
              have hL1 := ctl_load hT9 hy2
              replace o9 := Lib.hid o9
              replace hL1 := Lib.hid hL1
              replace hy1 := Lib.hid hy1
              replace hy2 := Lib.hid hy2
              go_wp2_with fail
              refine (hL1.out).mono ?_; rintro e wA ⟨rfl, tA⟩
              have oA := o9.out.off tA.2 hFG8.out.symm hG8.out
              have hFGA : Off F8 (nw G8 w9 wA) := Off.nw hFG8.out.symm o9.out.heap.own |>.symm
              have hGA : ∀ k, nw G8 w9 wA k → w2.heap.size ≤ k := fun k hk => hk.elim (hG8.out k) (fun h => Nat.le_trans o9.out.below.size h.1)
              have hTA := tA.1
              have hL2 := ctl_load oA.heap hy1.out
              clear hL1 tA o9 hT9
              generalize nw G8 w9 wA = GA at *
              replace oA := Lib.hid oA
              replace hFGA := Lib.hid hFGA
              replace hGA := Lib.hid hGA
              replace hTA := Lib.hid hTA
              replace hL2 := Lib.hid hL2
              go_wp2_with fail
              refine (hL2.out).mono ?_; rintro e wB ⟨rfl, tB⟩
              have oB := oA.out.turned tB
              have hTB := hTA.out.off tB.2 hFGA.out
              have hFGB : Off (nw F8 wA wB) GA := Off.nw hFGA.out hTA.out.own
              clear tB hL2 oA hTA hFGA
              replace oB := Lib.hid oB
              replace hTB := Lib.hid hTB
              replace hFGB := Lib.hid hFGB
              have hcb : (j : Int) ≤ 171 := by have := hcs.out; omega
              go_wp2_with fail
              go_roundw
              case rel => exact ⟨j + 1, _, GA, by omega, by go_num, oB.out, hTB.out, hFGB.out, hGA.out⟩
              case measure => simp [intOf]; omega
            · have d3 : decide ((j : Int) < ((ctlSize c : Nat) : Int)) = false := by simpa using hlj
              have hBl := fun (W : World) (o : Own w2 hb S6 F8 W) => blocks_any o.heap (by have := hlen6.out; have := hc.out.cap; have := hkc.out; omega)
              rw [hlen6.out] at hBl
              have hFa := fun (W : World) (o : Own w2 hb S6 F8 W) => faults_any o.heap
              rw [hf6.out] at hFa
              have hcb : (k : Int) ≤ 32 := by have := hc.out.cap; omega
              have hk2 : ((((k + 2 : Nat) : Int)) == (k : Int) + 2) = true := by simp
              have hk3 : IntKind.i64.wrap ((k : Int) + 2) = (k : Int) + 2 := IntWalk.i64_in _ (by omega)
              have hc0 : ∀ W, Below w2.heap.size w2 W → W.cell? ⟨w.heap.size, 0, none⟩ = some (.int .i64 (k : Int)) := fun W h => by rw [hkc.out]; exact (hcf.out W h).1
              replace o9 := Lib.hid o9
              replace hBl := Lib.hid hBl
              replace hFa := Lib.hid hFa
              replace hc0 := Lib.hid hc0
              clear hT9 hFG8 hG8
              go_upto_region 25 with fail
              refine wp_region_lex [(true, 0), (true, 3), (true, 4), (true, 5), (false, 1), (true, 2), (true, 6), (true, 7), (true, 8), (false, 9), (true, 10), (true, 11), (true, 12), (false, 13), (true, 14), (true, 15)] (fun W : World => W.cell? ⟨w.heap.size, 0, none⟩ = some (.int .i64 (k : Int))) (by kernel_rfl) (by kernel_rfl) (fun R hR => ?_)
              have q0 := o9.out.keep ((Below.refl w9.heap.size w9).drew)
              have hHeld : (fun W : World => W.cell? ⟨w.heap.size, 0, none⟩ = some (.int .i64 (k : Int))) w9.drew := hc0.out _ q0.below
              replace q0 := Lib.hid q0
              clear o9
              repeat (refine lex_take (v := ?_) rfl (by rfl) (by assumption) ?_ ?_; rotate_left 1; (focus (intro w hSw; (try dsimp only at hSw); go_simp; (try with_reducible rfl))); (try simp only [Act.put, List.setIfInBounds_toArray, List.set_cons_zero, List.set_cons_succ]))
              (refine lex_call rfl (by rfl) (fun K hq => ?_); go_simp)
              go_at_call 45
              refine (hBl.out _ q0.out).mono ?_; rintro e wA ⟨vA, rfl, hoA, hbA⟩
              obtain ⟨A4, c4, rfl⟩ := slice_ownB hoA
              have q1 := q0.out.keep hbA
              clear hHeld hoA hbA q0
              have hHeld : (fun W : World => W.cell? ⟨w.heap.size, 0, none⟩ = some (.int .i64 (k : Int))) wA := hc0.out _ q1.below
              replace q1 := Lib.hid q1
              go_wp2_with fail
              (refine hq.out _ _ (fun W : World => W.cell? ⟨w.heap.size, 0, none⟩ = some (.int .i64 (k : Int))) (fun _ h => h) hHeld ?_; clear hq K; (try simp only [Act.put, List.setIfInBounds_toArray, List.set_cons_zero, List.set_cons_succ]))
              repeat (refine lex_take (v := ?_) rfl (by rfl) (by assumption) ?_ ?_; rotate_left 1; (focus (intro w hSw; (try dsimp only at hSw); go_simp; (try with_reducible rfl))); (try simp only [Act.put, List.setIfInBounds_toArray, List.set_cons_zero, List.set_cons_succ]))
              (refine lex_call rfl (by rfl) (fun K hq => ?_); go_simp)
              go_at_call 31
              refine (hFa.out _ q1.out).mono ?_; rintro e wB ⟨rfl, rfl⟩
              go_wp2_with fail
              (refine hq.out _ _ (fun W : World => W.cell? ⟨w.heap.size, 0, none⟩ = some (.int .i64 (k : Int))) (fun _ h => h) hHeld ?_; clear hq K; (try simp only [Act.put, List.setIfInBounds_toArray, List.set_cons_zero, List.set_cons_succ]))
              repeat (refine lex_take (v := ?_) rfl (by rfl) (by assumption) ?_ ?_; rotate_left 1; (focus (intro w hSw; (try dsimp only at hSw); go_simp; (try with_reducible rfl))); (try simp only [Act.put, List.setIfInBounds_toArray, List.set_cons_zero, List.set_cons_succ]))
              (refine lex_call rfl (by rfl) (fun K hq => ?_); go_simp)
              go_at_call 34
              refine (awake29 _).mono ?_; rintro e wC ⟨rfl, hbC⟩
              have hbD := Below.next_ q1.out.below hbC
              clear hHeld hbC q1
              have hHeld : (fun W : World => W.cell? ⟨w.heap.size, 0, none⟩ = some (.int .i64 (k : Int))) wC := hc0.out _ hbD
              replace hbD := Lib.hid hbD
              go_wp2_with fail
              (refine hq.out _ _ (fun W : World => W.cell? ⟨w.heap.size, 0, none⟩ = some (.int .i64 (k : Int))) (fun _ h => h) hHeld ?_; clear hq K; (try simp only [Act.put, List.setIfInBounds_toArray, List.set_cons_zero, List.set_cons_succ]))
              repeat (refine lex_take (v := ?_) rfl (by rfl) (by assumption) ?_ ?_; rotate_left 1; (focus (intro w hSw; (try dsimp only at hSw); go_simp; (try with_reducible rfl))); (try simp only [Act.put, List.setIfInBounds_toArray, List.set_cons_zero, List.set_cons_succ]))
              refine lex_end ?_
              refine hR.out _ _ ?_
              clear hR R hHeld
              go_wp2_with fail
              go_ret
              exact ⟨rfl, hz2.out.trans (hbD.out.mono hz2.out.size)⟩
end Go.Proofs.Ytfelkkbgbgnpaaa
