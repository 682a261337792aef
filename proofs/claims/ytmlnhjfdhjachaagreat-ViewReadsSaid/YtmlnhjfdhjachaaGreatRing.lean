import Derived.Test.YtmlnhjfdhjachaaGreatReserveR
import Derived.Test.YtmlnhjfdhjachaaGreatPlan
/-
  The document's reserving on a tape (layer 28); configs as the document has them. No condition.
-/
namespace Go.Proofs.YtmlnhjfdhjachaaGreat
set_option linter.unusedVariables false
open Go.ChangeShapes Go.WideShapes Go.ChangeAt Go.RowKit
open Go.ChangeMaps (setBlock)

set_option maxRecDepth 100000 in
set_option maxHeartbeats 4000000 in
theorem refRight_any (c : PCfg) (w : World) : Calls Tryz.prog 9 #[c.val] w fun e w' => e = .returned (.bool c.right) ∧ Below w.heap.size w w' := by
  have hE : c.right = (decide (1 ≤ c.cap ∧ c.cap ≤ 32) && decide (1 ≤ c.pins ∧ c.pins ≤ 8) && decide (1 ≤ c.shelves ∧ c.shelves ≤ 64) && decide (0 ≤ c.queue ∧ c.queue ≤ 64) && decide (0 ≤ c.watchers ∧ c.watchers ≤ 8)) := rfl
  obtain ⟨a, b, s, q, t, z⟩ := c
  rw [show PCfg.val ⟨a, b, s, q, t, z⟩ = .agg #[.int .i64 a, .int .i64 b, .int .i64 s, .int .i64 q, .int .i64 t, .int .u64 z] from rfl]
  rw [hE]
  clear hE
  simp only [Bool.decide_and]
  go_enter Tryz.func9, Tryz.ntmps9
  go_wp2_with fail
  all_goals
    go_ret
    refine ⟨ret_b (by first | (simp [*]; done) | (simp; omega) | (simp [*]; omega)), ?_⟩
    exact Below.more_ (Below.refl _ _) _
/-- What the document's reserving answers, by the routine. -/
def RefPost (s0 : PRes) (Q : List PGot) (w : World) (tb : Nat) (A : Option Addr) (cc : Nat) (e : Ending) (w' : World) : Prop :=
  ∃ T', e = .returned (.tuple #[.agg #[.bool (feed PRes.take s0 Q).result.1.1, .int .i64 (feed PRes.take s0 Q).result.1.2], .int .i64 (feed PRes.take s0 Q).tries]) ∧ TapeIn w' tb A cc T' ∧
    T'.over = (feed PRes.take s0 Q).act.2 ∧ T'.act = (feed PRes.take s0 Q).act.1 ∧ Chg (fun k => k = tb) w w'
theorem res_ended {s0 : PRes} {Q : List PGot} {T : PTape} (h : Ended PRes.act PRes.take s0 Q T) : (feed PRes.take s0 Q).result = ((false, 0), false) := by
  have ha := h.act
  generalize feed PRes.take s0 Q = s at *
  unfold PRes.act at ha
  unfold PRes.result
  cases ho : s.over with
  | false => simp
  | true => simp [PRes.idle, ho] at ha
end Go.Proofs.YtmlnhjfdhjachaaGreat

/-
  The control block's cells by name, as the document has them (layer 21). No condition.
-/
namespace Go.Proofs.YtmlnhjfdhjachaaGreat
set_option linter.unusedVariables false
open Go.ChangeShapes Go.WideShapes Go.ChangeAt Go.RowKit
open Go.ChangeMaps (setBlock)

theorem txt_ne {x y : ByteArray} (h : x ≠ y) : ¬ x.toList = y.toList := fun e => h (by rw [ByteArray.toList_eq, ByteArray.toList_eq] at e; exact ByteArray.ext (Array.toList_inj.mp e))
def nmPin : ByteArray := ⟨#[112, 105, 110]⟩
def nmRing : ByteArray := ⟨#[114, 105, 110, 103]⟩
def nmKey : ByteArray := ⟨#[107, 101, 121]⟩
def nmHead : ByteArray := ⟨#[104, 101, 97, 100]⟩
/-- What stands in cell j: the thing, and which one. -/
def cellAt (P C j : Nat) : ByteArray × Int :=
  if j = 0 then (⟨#[101, 112, 111, 99, 104]⟩, 0) else if j = 1 then (⟨#[113, 117, 101, 117, 101]⟩, 0) else if j = 2 then (⟨#[100, 114, 97, 105, 110, 101, 100]⟩, 0)
  else if j < 3 + P then (nmPin, ((j - 3 : Nat) : Int)) else if j < 3 + P + C then (nmRing, ((j - 3 - P : Nat) : Int))
  else if (j - 3 - P - C) % 2 = 0 then (nmKey, (((j - 3 - P - C) / 2 : Nat) : Int)) else (nmHead, (((j - 3 - P - C) / 2 : Nat) : Int))
theorem cellAt_pin {P C k : Nat} (h : k < P) : cellAt P C (3 + k) = (nmPin, (k : Int)) := by
  unfold cellAt
  rw [if_neg (by omega), if_neg (by omega), if_neg (by omega), if_pos (by omega), show 3 + k - 3 = k by omega]
theorem cellAt_ring {P C k : Nat} (h : k < C) : cellAt P C (3 + P + k) = (nmRing, (k : Int)) := by
  unfold cellAt
  rw [if_neg (by omega), if_neg (by omega), if_neg (by omega), if_neg (by omega), if_pos (by omega), show 3 + P + k - 3 - P = k by omega]
theorem cellAt_key {P C k : Nat} : cellAt P C (3 + P + C + 2 * k) = (nmKey, (k : Int)) := by
  unfold cellAt
  rw [if_neg (by omega), if_neg (by omega), if_neg (by omega), if_neg (by omega), if_neg (by omega), if_pos (by omega), show (3 + P + C + 2 * k - 3 - P - C) / 2 = k by omega]
theorem cellAt_head {P C k : Nat} : cellAt P C (3 + P + C + 2 * k + 1) = (nmHead, (k : Int)) := by
  unfold cellAt
  rw [if_neg (by omega), if_neg (by omega), if_neg (by omega), if_neg (by omega), if_neg (by omega), if_neg (by omega), show (3 + P + C + 2 * k + 1 - 3 - P - C) / 2 = k by omega]
theorem cellAt_uniq {P C i j : Nat} (h : cellAt P C i = cellAt P C j) : i = j := by
  unfold cellAt at h
  repeat' split at h
  all_goals
    injection h with h1 h2
    first
    | omega
    | (exact absurd h1 (by decide))
def cellsL (P C n : Nat) : List Value := (List.range n).flatMap fun j => [.string (cellAt P C j).1, .int .i64 (cellAt P C j).2]
theorem cellsL_snoc {P C n : Nat} {a : ByteArray} {i : Int} (h : cellAt P C n = (a, i)) : cellsL P C n ++ [.string a, .int .i64 i] = cellsL P C (n + 1) := by
  unfold cellsL
  rw [List.range_succ, List.flatMap_append]
  simp [h]
theorem cellsL_snoc2 {P C n : Nat} {a b : ByteArray} {i j : Int} (h : cellAt P C n = (a, i)) (h2 : cellAt P C (n + 1) = (b, j)) : cellsL P C n ++ [.string a, .int .i64 i, .string b, .int .i64 j] = cellsL P C (n + 2) := by
  rw [← cellsL_snoc h2, ← cellsL_snoc h]
  simp
theorem cellsL_len (P C n : Nat) : (cellsL P C n).length = n * 2 := by
  induction n with
  | zero => rfl
  | succ n ih => rw [← cellsL_snoc (P := P) (C := C) (n := n) rfl, List.length_append, ih]; simp; omega
theorem cellsL_at (P C : Nat) : ∀ (n j : Nat), j < n → (cellsL P C n)[j * 2]? = some (.string (cellAt P C j).1) ∧ (cellsL P C n)[j * 2 + 1]? = some (.int .i64 (cellAt P C j).2)
  | 0, j, h => by omega
  | n + 1, j, h => by
    have hl := cellsL_len P C n
    rw [← cellsL_snoc (P := P) (C := C) (n := n) rfl]
    by_cases hj : j = n
    · subst hj
      rw [List.getElem?_append_right (by omega), List.getElem?_append_right (by omega), hl, show j * 2 - j * 2 = 0 by omega, show j * 2 + 1 - j * 2 = 1 by omega]
      exact ⟨rfl, rfl⟩
    · rw [List.getElem?_append_left (by omega), List.getElem?_append_left (by omega)]
      exact cellsL_at P C n j (by omega)
theorem reads_blk2 {w : World} {g : Nat} {t : TypeId} {cs : Array Value} (h : Blk w g t cs) (k m : Nat) (hk : cs.size = m * k) (hm : 0 < m) : Reads w (g + 1) k (some ⟨g, 0, none⟩) m cs.toList := by
  refine ⟨by simp [hk], fun _ => ⟨_, rfl, by show g < g + 1; omega, fun j u hu => ?_⟩⟩
  have := h.cell j
  have e : (⟨g, 0, none⟩ : Addr).add j = ⟨g, j, none⟩ := by unfold Addr.add; split <;> simp_all
  rw [e, this]
  simpa using hu
theorem owns_blk {w : World} {g base n : Nat} {t : TypeId} {cs : Array Value} (h : Blk w g t cs) (k : Nat) (hk : cs.size = n * k) (hn : n ≤ 1000) (hb : base ≤ g) : w.ownsRow base t k (.slice (some ⟨g, 0, none⟩) n n) n cs.toList := by
  refine ⟨by simp [hk], .inr ⟨g, n, cs, rfl, hb, h, Nat.le_refl _, by unfold maxLen; omega, by omega, ?_⟩⟩
  have : cs.toList.length = n * k := by simp [hk]
  rw [← this, List.take_length]
theorem owns_ne {w : World} {base : Nat} {e t : TypeId} {size n g : Nat} {v : Value} {xs : List Value} {cs : Array Value} (h : w.ownsRow base e size v n xs) (hg : Blk w g t cs) (hne : e ≠ t) : some g ≠ v.ownBlock := fun e' => own_blk_ne h hg hne e'.symm
theorem owns_below {B : Nat} {w wr w1 : World} {e : TypeId} {size n : Nat} {v : Value} {xs : List Value} (hB : B ≤ w.heap.size) (h : Below B w wr) (ho : wr.ownsRow B e size v n xs) (hg : wr.grownBy w1 v.ownBlock) : Below B w w1 :=
  ⟨hg.os.trans h.os, hg.tape.trans h.tape, hg.output.trans h.output, Nat.le_trans h.size hg.size, fun i hi => (hg.block i (Nat.lt_of_lt_of_le (Nat.lt_of_lt_of_le hi hB) h.size) (fun e' => by have := (World.ownsRow.lt ho _ e'.symm).1; omega)).trans (h.block i hi)⟩
structure CellsRel (w : World) (c : PCfg) (P C from_ step top : Nat) (v iv : Value) (wr : World) : Prop where
  ex : ∃ k : Nat, k ≤ top ∧ iv = .int .i64 k ∧ wr.ownsRow w.heap.size 158 2 v (from_ + step * k) (cellsL P C (from_ + step * k))
  b0 : Blk wr w.heap.size 24 #[.int .i64 c.cap, .int .i64 c.pins, .int .i64 c.shelves, .int .i64 c.queue, .int .i64 c.watchers, .int .u64 c.seed]
  below : Below w.heap.size w wr
set_option maxRecDepth 100000 in
set_option maxHeartbeats 4000000 in
theorem refCells_any (c : PCfg) (hc : c.Right) (P C S : Nat) (hP : c.pins = P) (hC : c.cap = C) (hS : c.shelves = S) (w : World) : Calls Tryz.prog 79 #[c.val] w fun e w' => ∃ v, e = .returned v ∧ w'.ownsRow w.heap.size 158 2 v (3 + P + C + 2 * S) (cellsL P C (3 + P + C + 2 * S)) ∧ Below w.heap.size w w' := by
  obtain ⟨i0, hi, hz0, hz1, hz2⟩ : ∃ i, Tryz.prog.info? 158 = some i ∧ i.zero = some (.agg #[.string ⟨#[]⟩, .int .i64 0]) ∧ i.size = 2 ∧ i.bytes = 24 := ⟨_, rfl, rfl, rfl, rfl⟩
  have hRR := fun W => refRight_any c W
  rw [(PCfg.right_iff c).2 hc] at hRR
  have hb8 := hc.pins
  have hb32 := hc.cap
  have hb64 := hc.shelves
  have hz : Below w.heap.size w (w.alloc (.cells #[.int .i64 c.cap, .int .i64 c.pins, .int .i64 c.shelves, .int .i64 c.queue, .int .i64 c.watchers, .int .u64 c.seed] 24)) := (Below.refl _ _).alloc (Nat.le_refl _) _
  have B0 := Blk.new w 24 #[.int .i64 c.cap, .int .i64 c.pins, .int .i64 c.shelves, .int .i64 c.queue, .int .i64 c.watchers, .int .u64 c.seed]
  have hCV : c.val = .agg #[.int .i64 c.cap, .int .i64 c.pins, .int .i64 c.shelves, .int .i64 c.queue, .int .i64 c.watchers, .int .u64 c.seed] := rfl
  rw [hCV] at hRR ⊢
  clear hCV
  have hPd : ∀ k : Nat, decide ((k : Int) < c.pins) = decide (k < P) := fun k => by rw [hP]; simp
  have hCd : ∀ k : Nat, decide ((k : Int) < c.cap) = decide (k < C) := fun k => by rw [hC]; simp
  have hSd : ∀ k : Nat, decide ((k : Int) < c.shelves) = decide (k < S) := fun k => by rw [hS]; simp
  replace hP := Lib.hid hP
  replace hC := Lib.hid hC
  replace hS := Lib.hid hS
  replace hPd := Lib.hid hPd
  replace hCd := Lib.hid hCd
  replace hSd := Lib.hid hSd
  replace hz := Lib.hid hz
  replace B0 := Lib.hid B0
  replace hRR := Lib.hid hRR
  have hP8 : P ≤ 8 := by have := hP.out; omega
  have hC32 : C ≤ 32 := by have := hC.out; omega
  have hS64 : S ≤ 64 := by have := hS.out; omega
  go_enter Tryz.func79, Tryz.ntmps79
  go_wp2_with fail
  refine (hRR.out _).mono ?_; rintro e w1 ⟨rfl, hb1⟩
  have C1 := B0.out.below hb1 (by simp)
  have hz1' := nx hz.out (Nat.le_refl _) hb1
  clear hb1
  replace C1 := Lib.hid C1
  replace hz1' := Lib.hid hz1'
  go_wp2_with fail
  go_loopw [3, 4] (fun v iv wr => CellsRel w c P C (3) 1 P v iv wr) (fun _ i _ => P + 1 - (intOf i).toNat)
  case atStart =>
    refine ⟨⟨0, Nat.zero_le _, rfl, ?_⟩, ?_, ?_⟩
    · exact owns_blk (Blk.new w1 158 _) 2 rfl (by decide) hz1'.out.size
    · exact C1.out.alloc _
    · exact Below.more_ hz1'.out _
  case round =>
    obtain ⟨⟨k, hk, rfl, hown⟩, b0, hbl⟩ := hrel
    have c0 := b0.cell 0
    have c1 := b0.cell 1
    have c2 := b0.cell 2
    have hs1 := b0.lt
    by_cases hlt : k < P
    · have d2 : decide ((k : Int) < c.pins) = true := by rw [hPd.out]; simpa using hlt
      have hl63 : (k : Int) + 1 ≤ 9223372036854775807 := by omega
      have hsn : cellsL P C (3 + 1 * k) ++ [.string ⟨#[112, 105, 110]⟩, .int .i64 (k : Int)] = cellsL P C (3 + 1 * k + 1) := cellsL_snoc (P := P) (C := C) (n := 3 + 1 * k) (a := nmPin) (i := (k : Int)) (by rw [Nat.one_mul]; exact cellAt_pin hlt)
      replace hsn := Lib.hid hsn
      replace hown := Lib.hid hown
      replace b0 := Lib.hid b0
      replace hbl := Lib.hid hbl
      go_wp2_with (at_builtin; go_loud (refine wpList_append_any _ rfl _ _ 155 rfl w.heap.size 158 i0 (.agg #[.string ⟨#[]⟩, .int .i64 0]) 2 24 Tryz.underlying155 hi hz0 hz1 hz2 rfl (by decide) _ _ _ rfl (hown.out.alloc _) (wr.heap.size + 1) (some ⟨wr.heap.size, 0, none⟩) 1 1 [.string ⟨#[112, 105, 110]⟩, .int .i64 (k : Int)] rfl (reads_blk2 (Blk.new wr 158 _) 2 1 rfl (by decide)) (by simp [Value.oneCell']) (by unfold maxLen; omega) (by omega) (by have := hbl.out.size; simp; omega) ?_; intro v' w5 hown5 hgrow hloc; rw [hsn.out] at hown5; have C5 := (b0.out.alloc (.cells #[.string ⟨#[112, 105, 110]⟩, .int .i64 (k : Int)] 158)).grown hgrow (owns_ne hown.out b0.out (by decide)); have hb5 := owns_below (Nat.le_refl _) (Below.more_ hbl.out _) (hown.out.alloc _) hgrow; replace hown5 := Lib.hid hown5; replace hgrow := Lib.hid hgrow; replace hloc := Lib.hid hloc; replace C5 := Lib.hid C5; replace hb5 := Lib.hid hb5))
      go_roundw
      case rel => exact ⟨⟨k + 1, by omega, by go_num, hown5.out⟩, C5.out, hb5.out⟩
      case measure => simp [intOf]; omega
    · have d2 : decide ((k : Int) < c.pins) = false := by rw [hPd.out]; simpa using hlt
      have hke : k = P := by omega
      rw [hke] at hown d2 ⊢
      rw [show 3 + 1 * P = 3 + P by omega] at hown
      clear hke hk hlt
      replace hown := Lib.hid hown
      replace b0 := Lib.hid b0
      replace hbl := Lib.hid hbl
      go_wp2_with fail
      clear c0 c1 c2
      replace hown := hown.out
      replace b0 := b0.out
      replace hbl := hbl.out
      go_loopw [3, 5] (fun v iv wr => CellsRel w c P C (3 + P) 1 C v iv wr) (fun _ i _ => C + 1 - (intOf i).toNat)
      case atStart => exact ⟨⟨0, Nat.zero_le _, rfl, hown⟩, b0, hbl⟩
      case round =>
        obtain ⟨⟨k, hk, rfl, hown⟩, b0, hbl⟩ := hrel
        have c0 := b0.cell 0
        have c1 := b0.cell 1
        have c2 := b0.cell 2
        have hs1 := b0.lt
        by_cases hlt : k < C
        · have d2 : decide ((k : Int) < c.cap) = true := by rw [hCd.out]; simpa using hlt
          have hl63 : (k : Int) + 1 ≤ 9223372036854775807 := by omega
          have hsn : cellsL P C (3 + P + 1 * k) ++ [.string ⟨#[114, 105, 110, 103]⟩, .int .i64 (k : Int)] = cellsL P C (3 + P + 1 * k + 1) := cellsL_snoc (P := P) (C := C) (n := 3 + P + 1 * k) (a := nmRing) (i := (k : Int)) (by rw [Nat.one_mul]; exact cellAt_ring hlt)
          replace hsn := Lib.hid hsn
          replace hown := Lib.hid hown
          replace b0 := Lib.hid b0
          replace hbl := Lib.hid hbl
          go_wp2_with (at_builtin; go_loud (refine wpList_append_any _ rfl _ _ 155 rfl w.heap.size 158 i0 (.agg #[.string ⟨#[]⟩, .int .i64 0]) 2 24 Tryz.underlying155 hi hz0 hz1 hz2 rfl (by decide) _ _ _ rfl (hown.out.alloc _) (wr.heap.size + 1) (some ⟨wr.heap.size, 0, none⟩) 1 1 [.string ⟨#[114, 105, 110, 103]⟩, .int .i64 (k : Int)] rfl (reads_blk2 (Blk.new wr 158 _) 2 1 rfl (by decide)) (by simp [Value.oneCell']) (by unfold maxLen; omega) (by omega) (by have := hbl.out.size; simp; omega) ?_; intro v' w5 hown5 hgrow hloc; rw [hsn.out] at hown5; have C5 := (b0.out.alloc (.cells #[.string ⟨#[114, 105, 110, 103]⟩, .int .i64 (k : Int)] 158)).grown hgrow (owns_ne hown.out b0.out (by decide)); have hb5 := owns_below (Nat.le_refl _) (Below.more_ hbl.out _) (hown.out.alloc _) hgrow; replace hown5 := Lib.hid hown5; replace hgrow := Lib.hid hgrow; replace hloc := Lib.hid hloc; replace C5 := Lib.hid C5; replace hb5 := Lib.hid hb5))
          go_roundw
          case rel => exact ⟨⟨k + 1, by omega, by go_num, hown5.out⟩, C5.out, hb5.out⟩
          case measure => simp [intOf]; omega
        · have d2 : decide ((k : Int) < c.cap) = false := by rw [hCd.out]; simpa using hlt
          have hke : k = C := by omega
          rw [hke] at hown d2 ⊢
          rw [show 3 + P + 1 * C = 3 + P + C by omega] at hown
          clear hke hk hlt
          replace hown := Lib.hid hown
          replace b0 := Lib.hid b0
          replace hbl := Lib.hid hbl
          go_wp2_with fail
          clear c0 c1 c2
          replace hown := hown.out
          replace b0 := b0.out
          replace hbl := hbl.out
          go_loopw [3, 6] (fun v iv wr => CellsRel w c P C (3 + P + C) 2 S v iv wr) (fun _ i _ => S + 1 - (intOf i).toNat)
          case atStart => exact ⟨⟨0, Nat.zero_le _, rfl, hown⟩, b0, hbl⟩
          case round =>
            obtain ⟨⟨k, hk, rfl, hown⟩, b0, hbl⟩ := hrel
            have c0 := b0.cell 0
            have c1 := b0.cell 1
            have c2 := b0.cell 2
            have hs1 := b0.lt
            by_cases hlt : k < S
            · have d2 : decide ((k : Int) < c.shelves) = true := by rw [hSd.out]; simpa using hlt
              have hl63 : (k : Int) + 1 ≤ 9223372036854775807 := by omega
              have hsn : cellsL P C (3 + P + C + 2 * k) ++ [.string ⟨#[107, 101, 121]⟩, .int .i64 (k : Int), .string ⟨#[104, 101, 97, 100]⟩, .int .i64 (k : Int)] = cellsL P C (3 + P + C + 2 * k + 2) := cellsL_snoc2 (P := P) (C := C) (n := 3 + P + C + 2 * k) (a := nmKey) (b := nmHead) (i := (k : Int)) (j := (k : Int)) cellAt_key cellAt_head
              replace hsn := Lib.hid hsn
              replace hown := Lib.hid hown
              replace b0 := Lib.hid b0
              replace hbl := Lib.hid hbl
              go_wp2_with (at_builtin; go_loud (refine wpList_append_any _ rfl _ _ 155 rfl w.heap.size 158 i0 (.agg #[.string ⟨#[]⟩, .int .i64 0]) 2 24 Tryz.underlying155 hi hz0 hz1 hz2 rfl (by decide) _ _ _ rfl (hown.out.alloc _) (wr.heap.size + 1) (some ⟨wr.heap.size, 0, none⟩) 2 2 [.string ⟨#[107, 101, 121]⟩, .int .i64 (k : Int), .string ⟨#[104, 101, 97, 100]⟩, .int .i64 (k : Int)] rfl (reads_blk2 (Blk.new wr 158 _) 2 2 rfl (by decide)) (by simp [Value.oneCell']) (by unfold maxLen; omega) (by omega) (by have := hbl.out.size; simp; omega) ?_; intro v' w5 hown5 hgrow hloc; rw [hsn.out] at hown5; have C5 := (b0.out.alloc (.cells #[.string ⟨#[107, 101, 121]⟩, .int .i64 (k : Int), .string ⟨#[104, 101, 97, 100]⟩, .int .i64 (k : Int)] 158)).grown hgrow (owns_ne hown.out b0.out (by decide)); have hb5 := owns_below (Nat.le_refl _) (Below.more_ hbl.out _) (hown.out.alloc _) hgrow; replace hown5 := Lib.hid hown5; replace hgrow := Lib.hid hgrow; replace hloc := Lib.hid hloc; replace C5 := Lib.hid C5; replace hb5 := Lib.hid hb5))
              go_roundw
              case rel => exact ⟨⟨k + 1, by omega, by go_num, hown5.out⟩, C5.out, hb5.out⟩
              case measure => simp [intOf]; omega
            · have d2 : decide ((k : Int) < c.shelves) = false := by rw [hSd.out]; simpa using hlt
              have hke : k = S := by omega
              rw [hke] at hown d2 ⊢
              rw [show 3 + P + C + 2 * S = 3 + P + C + 2 * S by omega] at hown
              clear hke hk hlt
              replace hown := Lib.hid hown
              go_wp2_with fail
              go_ret
              exact ⟨_, rfl, hown.out, hbl⟩
theorem slice_of_owns {w : World} {base : Nat} {e : TypeId} {size n : Nat} {v : Value} {xs : List Value} (h : w.ownsRow base e size v n xs) (hn : 0 < n) : ∃ g c, v = .slice (some ⟨g, 0, none⟩) n c := by
  rcases h.2 with ⟨rfl, rfl⟩ | ⟨g, cap, cur, rfl, _⟩
  · omega
  · exact ⟨_, _, rfl⟩
set_option maxRecDepth 100000 in
set_option maxHeartbeats 4000000 in
theorem refAt_any (c : PCfg) (hc : c.Right) (P C S : Nat) (hP : c.pins = P) (hC : c.cap = C) (hS : c.shelves = S) (k0 : Nat) (hk0 : k0 < 3 + P + C + 2 * S) (nm : ByteArray) (i : Int) (hat : cellAt P C k0 = (nm, i)) (w : World) :
    Calls Tryz.prog 44 #[c.val, .string nm, .int .i64 i] w fun e w' => e = .returned (.int .i64 k0) ∧ Below w.heap.size w w' := by
  have hCs := fun W => refCells_any c hc P C S hP hC hS W
  have hun : ∀ j, j < k0 → cellAt P C j ≠ (nm, i) := fun j hj e => by
    have := cellAt_uniq (e.trans hat.symm)
    omega
  have hb8 := hc.pins
  have hb32 := hc.cap
  have hb64 := hc.shelves
  have hz : Below w.heap.size w (w.alloc (.cells #[.int .i64 c.cap, .int .i64 c.pins, .int .i64 c.shelves, .int .i64 c.queue, .int .i64 c.watchers, .int .u64 c.seed] 24)) := (Below.refl _ _).alloc (Nat.le_refl _) _
  have hCV : c.val = .agg #[.int .i64 c.cap, .int .i64 c.pins, .int .i64 c.shelves, .int .i64 c.queue, .int .i64 c.watchers, .int .u64 c.seed] := rfl
  rw [hCV] at hCs ⊢
  clear hCV
  have hn : 3 + P + C + 2 * S ≤ 171 := by omega
  generalize 3 + P + C + 2 * S = N at *
  replace hCs := Lib.hid hCs
  replace hz := Lib.hid hz
  replace hun := Lib.hid hun
  replace hat := Lib.hid hat
  clear hP hC hS
  go_enter Tryz.func44, Tryz.ntmps44
  go_wp2_with fail
  refine (hCs.out _).mono ?_; rintro e w1 ⟨v, rfl, hown, hb1⟩
  have hz1 := nx hz.out (Nat.le_refl _) hb1
  obtain ⟨g, cp, rfl⟩ := slice_of_owns hown (by omega)
  have hcel : ∀ j, j < N → w1.cell? ((⟨g, 0, none⟩ : Addr).add (j * 2)) = some (.string (cellAt P C j).1) ∧ w1.cell? ((⟨g, 0, none⟩ : Addr).add (j * 2 + 1)) = some (.int .i64 (cellAt P C j).2) := fun j hj =>
    ⟨hown.cells (g := g) rfl _ _ (cellsL_at P C N j hj).1, hown.cells (g := g) rfl _ _ (cellsL_at P C N j hj).2⟩
  clear hb1
  replace hz1 := Lib.hid hz1
  replace hown := Lib.hid hown
  replace hcel := Lib.hid hcel
  go_wp2_with fail
  go_loop [8] (fun iv => ∃ k : Nat, k ≤ k0 ∧ iv = .int .i64 k) (fun i => N + 1 - (intOf i).toNat)
  case atStart => exact ⟨0, Nat.zero_le _, rfl⟩
  case round =>
    obtain ⟨k, hk, rfl⟩ := hrel
    have d2 : decide ((k : Int) < (N : Int)) = true := by simp; omega
    obtain ⟨q1, q2⟩ := hcel.out k (by omega)
    have e1 : (⟨g, 0, none⟩ : Addr).add (k * 2) = ⟨g, k * 2, none⟩ := by unfold Addr.add; split <;> simp_all
    have e2 : (⟨g, 0, none⟩ : Addr).add (k * 2 + 1) = ⟨g, k * 2 + 1, none⟩ := by unfold Addr.add; split <;> simp_all
    rw [e1] at q1
    rw [e2] at q2
    clear e1 e2
    have i1 : (0 : Int) ≤ (k : Int) := by omega
    have i2 : (k : Int) < (N : Int) := by omega
    have hu := hun.out k
    have ha : k = k0 → cellAt P C k = (nm, i) := fun e => by rw [e]; exact hat.out
    rcases hx : cellAt P C k with ⟨a, x⟩
    rw [hx] at q1 q2 hu ha
    replace hx := Lib.hid hx
    by_cases hke : k = k0
    · have := ha hke
      injection this with h1 h2
      subst h1 h2
      replace hu := Lib.hid hu
      replace ha := Lib.hid ha
      have e3 : (k : Int) = (k0 : Int) := by rw [hke]
      replace hke := Lib.hid hke
      replace e3 := Lib.hid e3
      go_wp2_with fail
      go_ret
      exact ⟨by rw [← e3.out]; rfl, hz1.out⟩
    · have hne := hu (by omega)
      replace hu := Lib.hid hu
      replace ha := Lib.hid ha
      replace hke := Lib.hid hke
      by_cases ha1 : a = nm
      · have hx1 : x ≠ i := fun e => hne (by rw [ha1, e])
        have d4 : (x == i) = false := by simp [hx1]
        replace hx1 := Lib.hid hx1
        replace hne := Lib.hid hne
        subst ha1
        go_wp2_with fail
        go_round
        case rel => exact ⟨k + 1, by have := hke.out; omega, by go_num⟩
        case measure => simp [intOf]; omega
      · have d3 := txt_ne ha1
        replace ha1 := Lib.hid ha1
        replace hne := Lib.hid hne
        go_wp2_with fail
        go_round
        case rel => exact ⟨k + 1, by have := hke.out; omega, by go_num⟩
        case measure => simp [intOf]; omega
theorem refPinAt (c : PCfg) (hc : c.Right) (k : Nat) (hk : (k : Int) < c.pins) (w : World) : Calls Tryz.prog 44 #[c.val, .string ⟨#[112, 105, 110]⟩, .int .i64 k] w fun e w' => e = .returned (.int .i64 ((3 + k : Nat) : Int)) ∧ Below w.heap.size w w' := by
  have h1 := hc.pins
  have h2 := hc.cap
  have h3 := hc.shelves
  exact refAt_any c hc c.pins.toNat c.cap.toNat c.shelves.toNat (by omega) (by omega) (by omega) (3 + k) (by omega) nmPin k (cellAt_pin (by omega)) w
theorem refKeyAt (c : PCfg) (hc : c.Right) (k : Nat) (hk : (k : Int) < c.shelves) (w : World) : Calls Tryz.prog 44 #[c.val, .string ⟨#[107, 101, 121]⟩, .int .i64 k] w fun e w' => e = .returned (.int .i64 (3 + c.pins + c.cap + 2 * k)) ∧ Below w.heap.size w w' := by
  have h1 := hc.pins
  have h2 := hc.cap
  have h3 := hc.shelves
  have := refAt_any c hc c.pins.toNat c.cap.toNat c.shelves.toNat (by omega) (by omega) (by omega) (3 + c.pins.toNat + c.cap.toNat + 2 * k) (by omega) nmKey k cellAt_key w
  rwa [show ((3 + c.pins.toNat + c.cap.toNat + 2 * k : Nat) : Int) = 3 + c.pins + c.cap + 2 * k by omega] at this
end Go.Proofs.YtmlnhjfdhjachaaGreat

/-
  Where a ticket's cell, a shelf's head stand: the program's, and the document's. No condition.
-/
namespace Go.Proofs.YtmlnhjfdhjachaaGreat
set_option linter.unusedVariables false
open Go.ChangeShapes Go.WideShapes Go.ChangeAt Go.RowKit
open Go.ChangeMaps (setBlock)

def ringAt (c : PCfg) (t : Int) : Int := 3 + c.pins + t % c.cap
theorem ringAt_ok {c : PCfg} (h : c.Right) (t : Int) (ht : 0 ≤ t) : 4 ≤ ringAt c t ∧ ringAt c t ≤ 100 ∧ 3 + c.pins ≤ ringAt c t ∧ ringAt c t < 3 + c.pins + c.cap := by
  have h1 := h.pins
  have h2 := h.cap
  have h3 := Int.emod_nonneg t (b := c.cap) (by omega)
  have h4 := Int.emod_lt_of_pos t (b := c.cap) (by omega)
  unfold ringAt
  omega
theorem refHeadAt (c : PCfg) (hc : c.Right) (k : Nat) (hk : (k : Int) < c.shelves) (w : World) : Calls Tryz.prog 44 #[c.val, .string ⟨#[104, 101, 97, 100]⟩, .int .i64 k] w fun e w' => e = .returned (.int .i64 (3 + c.pins + c.cap + 2 * k + 1)) ∧ Below w.heap.size w w' := by
  have h1 := hc.pins
  have h2 := hc.cap
  have h3 := hc.shelves
  have := refAt_any c hc c.pins.toNat c.cap.toNat c.shelves.toNat (by omega) (by omega) (by omega) (3 + c.pins.toNat + c.cap.toNat + 2 * k + 1) (by omega) nmHead k cellAt_head w
  rwa [show ((3 + c.pins.toNat + c.cap.toNat + 2 * k + 1 : Nat) : Int) = 3 + c.pins + c.cap + 2 * k + 1 by omega] at this
theorem refRingAt (c : PCfg) (hc : c.Right) (k : Nat) (hk : (k : Int) < c.cap) (w : World) : Calls Tryz.prog 44 #[c.val, .string ⟨#[114, 105, 110, 103]⟩, .int .i64 k] w fun e w' => e = .returned (.int .i64 (3 + c.pins + k)) ∧ Below w.heap.size w w' := by
  have h1 := hc.pins
  have h2 := hc.cap
  have h3 := hc.shelves
  have := refAt_any c hc c.pins.toNat c.cap.toNat c.shelves.toNat (by omega) (by omega) (by omega) (3 + c.pins.toNat + k) (by omega) nmRing k (cellAt_ring (by omega)) w
  rwa [show ((3 + c.pins.toNat + k : Nat) : Int) = 3 + c.pins + k by omega] at this
end Go.Proofs.YtmlnhjfdhjachaaGreat
