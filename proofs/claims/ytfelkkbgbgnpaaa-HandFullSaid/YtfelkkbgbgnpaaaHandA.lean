import Derived.Test.YtfelkkbgbgnpaaaRing
import Derived.Test.YtfelkkbgbgnpaaaReserveR
/-
  The routine that hands an operation in (layer 29): what each of its functions does; as a routine. No condition.
-/
namespace Go.Proofs.Ytfelkkbgbgnpaaa
set_option linter.unusedVariables false
open Go.ChangeShapes Go.WideShapes Go.ChangeAt Go.RowKit
open Go.ChangeMaps (setBlock)

structure PHand where
  cfg : PCfg
  text : ByteArray
  part : Int
  res : PRes
  full : Bool
  ticket : Int
  record : Int
def PHand.cells (s : PHand) (pv : Value) : Array Value := #[.int .i64 s.cfg.cap, .int .i64 s.cfg.pins, .int .i64 s.cfg.shelves, .int .i64 s.cfg.queue, .int .i64 s.cfg.watchers, .int .u64 s.cfg.seed, .string s.text, .int .i64 s.part, pv, .bool s.full, .int .i64 s.ticket, .int .u64 s.record]
def PHand.settle (s : PHand) : PHand := if s.res.over then (if s.res.full then { s with full := true, part := 4 } else { s with ticket := s.res.ticket, part := 3 }) else s
/-- What it does next. -/
def PHand.act (s : PHand) : PAct × Bool :=
  if s.part = 1 then (⟨5, 0, 2, 0, 0, s.text⟩, true)
  else if s.part = 2 then s.res.act
  else if s.part = 3 then (⟨2, 1, ringAt s.cfg s.ticket, 0, s.record, ByteArray.empty⟩, true)
  else (noAct, false)
/-- What it takes. -/
def PHand.take (s : PHand) (g : PGot) : PHand :=
  if s.part = 1 then { s with record := g.word, part := 2 }
  else if s.part = 2 then PHand.settle { s with res := s.res.take g }
  else if s.part = 3 then { s with part := 4 }
  else s
def PHand.result (s : PHand) : (Bool × Int × Int) × Bool := if s.part = 4 then ((s.full, s.ticket, s.record), true) else ((false, 0, 0), false)
def noCfgH : PCfg := ⟨0, 0, 0, 0, 0, 0⟩
def newHand (c : PCfg) (text : ByteArray) : PHand := if c.right then ⟨c, text, 1, newRes c, false, 0, 0⟩ else ⟨noCfgH, ByteArray.empty, 0, newRes noCfgH, false, 0, 0⟩
/-- What holds of one that goes. -/
structure PHand.Inv (s : PHand) : Prop where
  part : 1 ≤ s.part ∧ s.part ≤ 4
  right : s.cfg.Right
  rcfg : s.res.cfg = s.cfg ∧ s.res.made = true
  ahead : s.part = 1 → s.res = newRes s.cfg ∧ s.full = false ∧ s.ticket = 0
  goes : s.part = 2 → s.res.over = false ∧ s.full = false ∧ s.ticket = 0
/-- It lies at b, its inner routine at a block of its own. -/
def HandIn (w : World) (Q : Nat → Prop) (b : Nat) (s : PHand) : Prop :=
  ∃ pv : Value, Blk w b 165 (s.cells pv) ∧ (0 ≤ s.record ∧ s.record ≤ 18446744073709551615) ∧ (0 ≤ s.ticket ∧ s.ticket ≤ 9223372036854775807) ∧ s.text.size ≤ 9223372036854775807 ∧
    ((s.part = 0 ∧ pv = .pointer none) ∨ (s.Inv ∧ ∃ rb, pv = .pointer (some ⟨rb, 0, none⟩) ∧ Q rb ∧ rb ≠ b ∧ ResIn w rb s.res))
theorem HandIn.keep {w w' : World} {Q : Nat → Prop} {b : Nat} {s : PHand} (h : HandIn w Q b s) (hb : Q b) (hk : ∀ k, Q k → w'.heap[k]? = w.heap[k]?) : HandIn w' Q b s := by
  obtain ⟨pv, h1, h2, h3, h4, h5⟩ := h
  refine ⟨pv, h1.keep (hk _ hb), h2, h3, h4, h5.imp id ?_⟩
  rintro ⟨h6, rb, h7, h8, h9, h10⟩
  exact ⟨h6, rb, h7, h8, h9, h10.keep (hk _ h8)⟩
theorem HandIn.wide {w : World} {Q Q' : Nat → Prop} {b : Nat} {s : PHand} (h : HandIn w Q b s) (hq : ∀ k, Q k → Q' k) : HandIn w Q' b s := by
  obtain ⟨pv, h1, h2, h3, h4, h5⟩ := h
  refine ⟨pv, h1, h2, h3, h4, h5.imp id ?_⟩
  rintro ⟨h6, rb, h7, h8, h9, h10⟩
  exact ⟨h6, rb, h7, hq _ h8, h9, h10⟩
theorem res_ticket {s : PRes} (h : s.over = false) (g : PGot) (h2 : (s.take g).over = true) : 0 ≤ (s.take g).ticket ∧ (s.take g).ticket ≤ 1099511627775 := by
  have hlook : ∀ (t : PRes) (x : Int), t.over = false → (t.look x).over = true → (t.look x).ticket = 0 := fun t x h3 h4 => by
    unfold PRes.look at h4 ⊢
    split at h4
    · simp [h3] at h4
    · rename_i hc
      rw [if_neg hc]
  unfold PRes.take at h2 ⊢
  split
  · rename_i hc
    rw [if_pos hc, h] at h2
    cases h2
  · rename_i hc
    rw [if_neg hc] at h2
    split
    · rename_i hd
      rw [if_pos hd] at h2
      rw [hlook _ _ h h2]
      omega
    · rename_i hd
      rw [if_neg hd] at h2
      split
      · exact cameOf_le _
      · rename_i he
        rw [if_neg he] at h2
        have h5 := hlook { s with tries := IntKind.i64.wrap (s.tries + 1) } g.word h h2
        rw [h5]
        omega
/-- What it takes keeps what holds. -/
theorem PHand.Inv.take {s : PHand} (h : s.Inv) (g : PGot) : (s.take g).Inv ∧ ((0 ≤ s.ticket ∧ s.ticket ≤ 9223372036854775807) → 0 ≤ (s.take g).ticket ∧ (s.take g).ticket ≤ 9223372036854775807) ∧ (s.take g).text = s.text := by
  obtain ⟨⟨p1, p4⟩, hr, hc, ha, hg⟩ := h
  have hcase : s.part = 1 ∨ s.part = 2 ∨ s.part = 3 ∨ s.part = 4 := by omega
  unfold PHand.take
  rcases hcase with e | e | e | e
  · rw [if_pos e]
    have h1 := ha e
    refine ⟨⟨by simp, hr, hc, fun e2 => by simp at e2, fun _ => ⟨?_, h1.2.1, h1.2.2⟩⟩, fun h2 => h2, rfl⟩
    show s.res.over = false
    rw [h1.1]
    rfl
  · rw [if_neg (by omega), if_pos e]
    have h1 := hg e
    have hk := PRes.take_cfg s.res g
    have ht := res_ticket h1.1 g
    show (PHand.settle _).Inv ∧ _
    unfold PHand.settle
    simp only
    split
    · rename_i hov
      split
      · exact ⟨⟨by simp, hr, ⟨hk.1.trans hc.1, hk.2.trans hc.2⟩, fun e2 => by simp at e2, fun e2 => by simp at e2⟩, fun h2 => h2, rfl⟩
      · refine ⟨⟨by simp, hr, ⟨hk.1.trans hc.1, hk.2.trans hc.2⟩, fun e2 => by simp at e2, fun e2 => by simp at e2⟩, fun h2 => ?_, rfl⟩
        have := ht hov
        show 0 ≤ (s.res.take g).ticket ∧ (s.res.take g).ticket ≤ _
        omega
    · rename_i hov
      exact ⟨⟨by simp [e], hr, ⟨hk.1.trans hc.1, hk.2.trans hc.2⟩, fun e2 => by simp [e] at e2, fun _ => ⟨by simpa using hov, h1.2⟩⟩, fun h2 => h2, rfl⟩
  · rw [if_neg (by omega), if_neg (by omega), if_pos e]
    exact ⟨⟨by simp, hr, hc, fun e2 => by simp at e2, fun e2 => by simp at e2⟩, fun h2 => h2, rfl⟩
  · rw [if_neg (by omega), if_neg (by omega), if_neg (by omega)]
    exact ⟨⟨⟨p1, p4⟩, hr, hc, ha, hg⟩, fun h2 => h2, rfl⟩
set_option maxRecDepth 100000 in
set_option maxHeartbeats 2000000 in
/-- 'one' of a kind that is not 0. -/
theorem handOne_any (k b c o n : Int) (t : ByteArray) (hk : k ≠ 0) (w : World) : Calls Try.prog 91 #[.agg #[.int .i64 k, .int .u64 b, .int .i64 c, .int .u64 o, .int .u64 n, .string t]] w fun e w' => e = .returned (.tuple #[.agg #[.int .i64 k, .int .u64 b, .int .i64 c, .int .u64 o, .int .u64 n, .string t], .bool true]) ∧ Below w.heap.size w w' := by
  have d1 : (k == 0) = false := by simp [hk]
  replace hk := Lib.hid hk
  go_enter Try.func91, Try.ntmps91
  go_wp2_with fail
  go_region
  all_goals
    go_wp2_with fail
    refine bodyPost_ret (v := .tuple #[.agg #[.int .i64 k, .int .u64 b, .int .i64 c, .int .u64 o, .int .u64 n, .string t], .bool true]) (by simp [results, Try.results91, go_sem]) rfl ⟨rfl, ?_⟩
    (repeat first | exact Below.refl _ _ | assumption | refine Below.drew ?_ | refine below_drewN ?_ _ | refine Below.more_ ?_ _ | refine Below.setCell ?_ (by first | exact Nat.le_refl _ | (simp; done) | (simp; omega)) _)
set_option maxRecDepth 100000 in
set_option maxHeartbeats 2000000 in
theorem handNone_any (w : World) : Calls Try.prog 91 #[.agg #[.int .i64 0, .int .u64 0, .int .i64 0, .int .u64 0, .int .u64 0, .string ⟨#[]⟩]] w fun e w' => e = .returned (.tuple #[.agg #[.int .i64 0, .int .u64 0, .int .i64 0, .int .u64 0, .int .u64 0, .string ⟨#[]⟩], .bool false]) ∧ Below w.heap.size w w' := by
  go_enter Try.func91, Try.ntmps91
  go_wp2_with fail
  go_region
  all_goals
    go_wp2_with fail
    refine bodyPost_ret (v := .tuple #[.agg #[.int .i64 0, .int .u64 0, .int .i64 0, .int .u64 0, .int .u64 0, .string ⟨#[]⟩], .bool false]) (by simp [results, Try.results91, go_sem]) rfl ⟨rfl, ?_⟩
    (repeat first | exact Below.refl _ _ | assumption | refine Below.drew ?_ | refine below_drewN ?_ _ | refine Below.more_ ?_ _ | refine Below.setCell ?_ (by first | exact Nat.le_refl _ | (simp; done) | (simp; omega)) _)
set_option maxRecDepth 100000 in
set_option maxHeartbeats 2000000 in
theorem handPut_any (c : PCfg) (h : c.Right) (ticket record : Int) (ht : 0 ≤ ticket ∧ ticket ≤ 9223372036854775807) (w : World) : Calls Try.prog 89 #[c.val, .int .i64 ticket, .int .u64 record] w fun e w' => e = .returned (.agg #[.int .i64 2, .int .u64 1, .int .i64 (ringAt c ticket), .int .u64 0, .int .u64 record, .string ⟨#[]⟩]) ∧ Below w.heap.size w w' := by
  have hR := fun W => planRing_any c h ticket ht W
  have hk := ringAt_ok h ticket ht.1
  have d1 : decide (0 ≤ ringAt c ticket) = true := by simp; omega
  generalize ringAt c ticket = ra at *
  obtain ⟨a, b, s, q, t, z⟩ := c
  rw [show PCfg.val ⟨a, b, s, q, t, z⟩ = .agg #[.int .i64 a, .int .i64 b, .int .i64 s, .int .i64 q, .int .i64 t, .int .u64 z] from rfl] at *
  have hz : Below w.heap.size w ((w.alloc (.cells #[.int .i64 a, .int .i64 b, .int .i64 s, .int .i64 q, .int .i64 t, .int .u64 z] 24)).alloc (.cells #[.int .i64 0, .int .u64 0, .int .i64 0, .int .u64 0, .int .u64 0, .string ⟨#[]⟩] 31)) := ((Below.refl _ _).alloc (Nat.le_refl _) _).alloc (by simp) _
  have B1 := Blk.new (w.alloc (.cells #[.int .i64 a, .int .i64 b, .int .i64 s, .int .i64 q, .int .i64 t, .int .u64 z] 24)) 31 #[.int .i64 0, .int .u64 0, .int .i64 0, .int .u64 0, .int .u64 0, .string ⟨#[]⟩]
  simp only [World.size_alloc] at B1
  replace hz := Lib.hid hz
  replace B1 := Lib.hid B1
  replace hR := Lib.hid hR
  replace hk := Lib.hid hk
  replace h := Lib.hid h
  go_enter Try.func89, Try.ntmps89
  go_wp2_with fail
  refine (hR.out _).mono ?_; rintro e w1 ⟨rfl, hb⟩
  have hz1 := nx hz.out (Nat.le_refl _) hb
  have B2 := B1.out.below hb (by simp)
  have c0 := B2.cell 0
  have c1 := B2.cell 1
  have c2 := B2.cell 2
  have c3 := B2.cell 3
  have c4 := B2.cell 4
  have c5 := B2.cell 5
  have f0 := B2.frozen 0
  have f1 := B2.frozen 1
  have f2 := B2.frozen 2
  have f3 := B2.frozen 3
  have f4 := B2.frozen 4
  have f5 := B2.frozen 5
  clear hb
  replace B2 := Lib.hid B2
  replace hz1 := Lib.hid hz1
  go_wp2_with fail
  refine gen_world (α := fun W' => bodyPost _ _ _ _ _ W') (fun W' => Blk W' (w.heap.size + 1) 31 #[.int .i64 2, .int .u64 1, .int .i64 ra, .int .u64 0, .int .u64 record, .string ⟨#[]⟩] ∧ Below w.heap.size w W') ⟨Blk.eq_cs ((((((B2.out.set_ 0 _).set_ 1 _).set_ 2 _).set_ 3 _).set_ 4 _).set_ 5 _) rfl, ?_⟩ ?_
  · repeat (refine Below.setCell ?_ (by show w.heap.size ≤ w.heap.size + 1; omega) _)
    exact hz1.out
  rintro W' ⟨g1, g2⟩
  have e0 := g1.cell 0
  have e1 := g1.cell 1
  have e2 := g1.cell 2
  have e3 := g1.cell 3
  have e4 := g1.cell 4
  have e5 := g1.cell 5
  exact bodyPost_ret (v := .agg #[.int .i64 2, .int .u64 1, .int .i64 ra, .int .u64 0, .int .u64 record, .string ⟨#[]⟩]) (by simp [results, Try.results89, go_sem, e0, e1, e2, e3, e4, e5]) rfl ⟨rfl, g2⟩
set_option maxRecDepth 100000 in
set_option maxHeartbeats 4000000 in
theorem handAct_nil (w : World) : Calls Try.prog 36 #[.pointer none] w fun e w' => e = .returned (.tuple #[.agg #[.int .i64 0, .int .u64 0, .int .i64 0, .int .u64 0, .int .u64 0, .string ⟨#[]⟩], .bool false]) ∧ Below w.heap.size w w' := by
  go_enter Try.func36, Try.ntmps36
  go_wp2_with fail
  refine bodyPost_ret (v := .tuple #[.agg #[.int .i64 0, .int .u64 0, .int .i64 0, .int .u64 0, .int .u64 0, .string ⟨#[]⟩], .bool false]) (by simp [results, Try.results36, go_sem]) rfl ⟨rfl, ?_⟩
  (repeat first | exact Below.refl _ _ | assumption | refine Below.drew ?_ | refine below_drewN ?_ _ | refine Below.more_ ?_ _ | refine Below.setCell ?_ (by first | exact Nat.le_refl _ | (simp; done) | (simp; omega)) _)
end Go.Proofs.Ytfelkkbgbgnpaaa

/-
  The routine that hands an operation in (layer 29): its next act, of the last part. No condition.
-/
namespace Go.Proofs.Ytfelkkbgbgnpaaa
set_option linter.unusedVariables false
open Go.ChangeShapes Go.WideShapes Go.ChangeAt Go.RowKit
open Go.ChangeMaps (setBlock)

set_option maxRecDepth 100000 in
set_option maxHeartbeats 4000000 in
theorem handAct3_any {w : World} {b : Nat} {cfg : PCfg} {text : ByteArray} {pv : Value} {full : Bool} {ticket record ra : Int} (hBc : Blk w b 165 #[.int .i64 cfg.cap, .int .i64 cfg.pins, .int .i64 cfg.shelves, .int .i64 cfg.queue, .int .i64 cfg.watchers, .int .u64 cfg.seed, .string text, .int .i64 3, pv, .bool full, .int .i64 ticket, .int .u64 record])
    (hP : ∀ W : World, Calls Try.prog 89 #[.agg #[.int .i64 cfg.cap, .int .i64 cfg.pins, .int .i64 cfg.shelves, .int .i64 cfg.queue, .int .i64 cfg.watchers, .int .u64 cfg.seed], .int .i64 ticket, .int .u64 record] W fun e w' => e = .returned (.agg #[.int .i64 2, .int .u64 1, .int .i64 ra, .int .u64 0, .int .u64 record, .string ⟨#[]⟩]) ∧ Below W.heap.size W w') :
    Calls Try.prog 36 #[.pointer (some ⟨b, 0, none⟩)] w fun e w' => e = .returned (.tuple #[.agg #[.int .i64 2, .int .u64 1, .int .i64 ra, .int .u64 0, .int .u64 record, .string ⟨#[]⟩], .bool true]) ∧ Below w.heap.size w w' := by
  have hz : Below w.heap.size w (w.alloc (.cells #[.int .i64 0, .int .u64 0, .int .i64 0, .int .u64 0, .int .u64 0, .string ⟨#[]⟩] 31)) := (Below.refl _ _).alloc (Nat.le_refl _) _
  have B0 := Blk.new w 31 #[.int .i64 0, .int .u64 0, .int .i64 0, .int .u64 0, .int .u64 0, .string ⟨#[]⟩]
  have c7 := hBc.cell 7
  have hlt := hBc.lt
  have hO := fun W => handOne_any 2 1 ra 0 record ⟨#[]⟩ (by decide) W
  replace hO := Lib.hid hO
  replace hP := Lib.hid hP
  replace hBc := Lib.hid hBc
  replace hz := Lib.hid hz
  replace B0 := Lib.hid B0
  obtain ⟨W, hW⟩ : ∃ W, W = w.alloc (.cells #[.int .i64 0, .int .u64 0, .int .i64 0, .int .u64 0, .int .u64 0, .string ⟨#[]⟩] 31) := ⟨_, rfl⟩
  have hBw := hBc.out.alloc (.cells #[.int .i64 0, .int .u64 0, .int .i64 0, .int .u64 0, .int .u64 0, .string ⟨#[]⟩] 31)
  have B0w := B0.out
  have hzw := hz.out
  rw [← hW] at hBw B0w hzw
  have v0 := hBw.cell 0
  have v1 := hBw.cell 1
  have v2 := hBw.cell 2
  have v3 := hBw.cell 3
  have v4 := hBw.cell 4
  have v5 := hBw.cell 5
  have v10 := hBw.cell 10
  have v11 := hBw.cell 11
  clear hBw
  replace B0w := Lib.hid B0w
  replace hzw := Lib.hid hzw
  go_enter Try.func36, Try.ntmps36
  go_wp2_with fail
  rw [← hW]
  replace hW := Lib.hid hW
  clear c7
  go_region_with (first | (go_at_call 89; refine (hP.out _).mono ?_; rintro e w0 ⟨rfl, hb0⟩; have B0' := Blk.below (w := W.drew) B0w.out hb0 B0w.out.lt; have hb0' := nx (b := W.drew) hzw.out.drew (Nat.le_refl _) hb0; clear hb0; replace B0' := Lib.hid B0'; replace hb0' := Lib.hid hb0') | (go_at_call 91; refine (hO.out _).mono ?_; rintro e w1 ⟨rfl, hb⟩; have B1 := B0'.out.below hb B0'.out.lt; have hb1 := nx hb0'.out (Nat.le_refl _) hb; clear hb; have b1c0 := B1.cell 0; have b1c1 := B1.cell 1; have b1c2 := B1.cell 2; have b1c3 := B1.cell 3; have b1c4 := B1.cell 4; have b1c5 := B1.cell 5; have b1f0 := B1.frozen 0; have b1f1 := B1.frozen 1; have b1f2 := B1.frozen 2; have b1f3 := B1.frozen 3; have b1f4 := B1.frozen 4; have b1f5 := B1.frozen 5; replace B1 := Lib.hid B1; replace hb1 := Lib.hid hb1))
  all_goals go_wp2_with fail
  all_goals
    refine gen_world (α := fun W' => bodyPost _ _ _ _ _ W') (fun W' => Blk W' w.heap.size 31 #[.int .i64 2, .int .u64 1, .int .i64 ra, .int .u64 0, .int .u64 record, .string ⟨#[]⟩] ∧ Below w.heap.size w W') ⟨Blk.eq_cs ((((((B1.out.set_ 0 _).set_ 1 _).set_ 2 _).set_ 3 _).set_ 4 _).set_ 5 _) rfl, ?_⟩ ?_
    · repeat (refine Below.setCell ?_ (by exact Nat.le_refl _) _)
      exact hb1.out
    rintro W' ⟨g1, g2⟩
    have e0 := g1.cell 0
    have e1 := g1.cell 1
    have e2 := g1.cell 2
    have e3 := g1.cell 3
    have e4 := g1.cell 4
    have e5 := g1.cell 5
    exact bodyPost_ret (v := .tuple #[.agg #[.int .i64 2, .int .u64 1, .int .i64 ra, .int .u64 0, .int .u64 record, .string ⟨#[]⟩], .bool true]) (by simp [results, Try.results36, go_sem, e0, e1, e2, e3, e4, e5]) rfl ⟨rfl, g2⟩
end Go.Proofs.Ytfelkkbgbgnpaaa

/-
  The routine that hands an operation in (layer 29): its next act. No condition.
-/
namespace Go.Proofs.Ytfelkkbgbgnpaaa
set_option linter.unusedVariables false
open Go.ChangeShapes Go.WideShapes Go.ChangeAt Go.RowKit
open Go.ChangeMaps (setBlock)

set_option maxRecDepth 100000 in
set_option maxHeartbeats 4000000 in
theorem handAct_any {w : World} {Q : Nat → Prop} {b : Nat} {s : PHand} (h : HandIn w Q b s) : Calls Try.prog 36 #[.pointer (some ⟨b, 0, none⟩)] w fun e w' => e = .returned (.tuple #[s.act.1.val, .bool s.act.2]) ∧ Below w.heap.size w w' := by
  have hA : s.act = if s.part = 1 then (⟨5, 0, 2, 0, 0, s.text⟩, true) else if s.part = 2 then s.res.act else if s.part = 3 then (⟨2, 1, ringAt s.cfg s.ticket, 0, s.record, ByteArray.empty⟩, true) else (noAct, false) := rfl
  rw [hA]
  clear hA
  obtain ⟨pv, hB, hrec, htk, htx, hcase⟩ := h
  have hz : Below w.heap.size w (w.alloc (.cells #[.int .i64 0, .int .u64 0, .int .i64 0, .int .u64 0, .int .u64 0, .string ⟨#[]⟩] 31)) := (Below.refl _ _).alloc (Nat.le_refl _) _
  have B0 := Blk.new w 31 #[.int .i64 0, .int .u64 0, .int .i64 0, .int .u64 0, .int .u64 0, .string ⟨#[]⟩]
  have hRA : ∀ rb, ResIn w rb s.res → Calls Try.prog 92 #[.pointer (some ⟨rb, 0, none⟩)] (w.alloc (.cells #[.int .i64 0, .int .u64 0, .int .i64 0, .int .u64 0, .int .u64 0, .string ⟨#[]⟩] 31)) fun e w' => e = .returned (.tuple #[s.res.act.1.val, .bool s.res.act.2]) ∧ Below (w.alloc (.cells #[.int .i64 0, .int .u64 0, .int .i64 0, .int .u64 0, .int .u64 0, .string ⟨#[]⟩] 31)).heap.size (w.alloc (.cells #[.int .i64 0, .int .u64 0, .int .i64 0, .int .u64 0, .int .u64 0, .string ⟨#[]⟩] 31)) w' := fun rb hr => resAct_any (hr.below hz)
  have hRing := ringAt_ok (c := s.cfg) 
  obtain ⟨cfg, text, part, res, full, ticket, record⟩ := s
  simp only at hrec htk htx hcase hRA ⊢
  have hBc : Blk w b 165 #[.int .i64 cfg.cap, .int .i64 cfg.pins, .int .i64 cfg.shelves, .int .i64 cfg.queue, .int .i64 cfg.watchers, .int .u64 cfg.seed, .string text, .int .i64 part, pv, .bool full, .int .i64 ticket, .int .u64 record] := hB
  clear hB
  have c0 := hBc.cell 0
  have c1 := hBc.cell 1
  have c2 := hBc.cell 2
  have c3 := hBc.cell 3
  have c4 := hBc.cell 4
  have c5 := hBc.cell 5
  have c6 := hBc.cell 6
  have c7 := hBc.cell 7
  have c8 := hBc.cell 8
  have c10 := hBc.cell 10
  have c11 := hBc.cell 11
  have hlt := hBc.lt
  replace hBc := Lib.hid hBc
  replace hz := Lib.hid hz
  replace B0 := Lib.hid B0
  rcases hcase with ⟨rfl, rfl⟩ | ⟨⟨⟨p1, p4⟩, hr, hc, ha, hg⟩, rb, rfl, hq, hne, hres⟩
  · simp (config := { decide := true }) only [if_false]
    change Calls Try.prog _ _ _ (fun e w' => e = .returned (.tuple #[.agg #[.int .i64 0, .int .u64 0, .int .i64 0, .int .u64 0, .int .u64 0, .string ⟨#[]⟩], .bool false]) ∧ _)
    replace hRA := Lib.hid hRA
    replace hRing := Lib.hid hRing
    as_aux_lemma =>
      go_enter Try.func36, Try.ntmps36
      go_wp2_with fail
      refine (handNone_any _).mono ?_; rintro e w1 ⟨rfl, hb⟩
      have B1 := B0.out.below hb B0.out.lt
      have hb1 := nx hz.out (Nat.le_refl _) hb
      clear hb c0 c1 c2 c3 c4 c5 c6 c7 c8 c10 c11
      have b1c0 := B1.cell 0
      have b1c1 := B1.cell 1
      have b1c2 := B1.cell 2
      have b1c3 := B1.cell 3
      have b1c4 := B1.cell 4
      have b1c5 := B1.cell 5
      have b1f0 := B1.frozen 0
      have b1f1 := B1.frozen 1
      have b1f2 := B1.frozen 2
      have b1f3 := B1.frozen 3
      have b1f4 := B1.frozen 4
      have b1f5 := B1.frozen 5
      replace B1 := Lib.hid B1
      replace hb1 := Lib.hid hb1
      go_wp2_with fail
      refine gen_world (α := fun W' => bodyPost _ _ _ _ _ W') (fun W' => Blk W' w.heap.size 31 #[.int .i64 0, .int .u64 0, .int .i64 0, .int .u64 0, .int .u64 0, .string ⟨#[]⟩] ∧ Below w.heap.size w W') ⟨Blk.eq_cs ((((((B1.out.set_ 0 _).set_ 1 _).set_ 2 _).set_ 3 _).set_ 4 _).set_ 5 _) rfl, ?_⟩ ?_
      · repeat (refine Below.setCell ?_ (by exact Nat.le_refl _) _)
        exact hb1.out
      rintro W' ⟨g1, g2⟩
      have e0 := g1.cell 0
      have e1 := g1.cell 1
      have e2 := g1.cell 2
      have e3 := g1.cell 3
      have e4 := g1.cell 4
      have e5 := g1.cell 5
      exact bodyPost_ret (v := .tuple #[.agg #[.int .i64 0, .int .u64 0, .int .i64 0, .int .u64 0, .int .u64 0, .string ⟨#[]⟩], .bool false]) (by simp [results, Try.results36, go_sem, e0, e1, e2, e3, e4, e5]) rfl ⟨rfl, g2⟩
  simp only at hr hc ha hg p1 p4
  have hRA2 := hRA rb hres
  clear hRA
  replace hres := Lib.hid hres
  replace hRing := Lib.hid (hRing hr ticket htk.1)
  replace ha := Lib.hid ha
  replace hc := Lib.hid hc
  replace hg := Lib.hid hg
  have hcase : part = 1 ∨ part = 2 ∨ part = 3 ∨ part = 4 := by omega
  rcases hcase with rfl | rfl | rfl | rfl
  · simp (config := { decide := true }) only [if_true, if_false]
    change Calls Try.prog _ _ _ (fun e w' => e = .returned (.tuple #[.agg #[.int .i64 5, .int .u64 0, .int .i64 2, .int .u64 0, .int .u64 0, .string text], .bool true]) ∧ _)
    have hO := fun W => handOne_any 5 0 2 0 0 text (by decide) W
    replace hO := Lib.hid hO
    replace hRA2 := Lib.hid hRA2
    as_aux_lemma =>
      go_enter Try.func36, Try.ntmps36
      go_wp2_with fail
      refine (hO.out _).mono ?_; rintro e w1 ⟨rfl, hb⟩
      have B1 := B0.out.below hb B0.out.lt
      have hb1 := nx hz.out (Nat.le_refl _) hb
      clear hb c0 c1 c2 c3 c4 c5 c6 c7 c8 c10 c11
      have b1c0 := B1.cell 0
      have b1c1 := B1.cell 1
      have b1c2 := B1.cell 2
      have b1c3 := B1.cell 3
      have b1c4 := B1.cell 4
      have b1c5 := B1.cell 5
      have b1f0 := B1.frozen 0
      have b1f1 := B1.frozen 1
      have b1f2 := B1.frozen 2
      have b1f3 := B1.frozen 3
      have b1f4 := B1.frozen 4
      have b1f5 := B1.frozen 5
      replace B1 := Lib.hid B1
      replace hb1 := Lib.hid hb1
      go_wp2_with fail
      refine gen_world (α := fun W' => bodyPost _ _ _ _ _ W') (fun W' => Blk W' w.heap.size 31 #[.int .i64 5, .int .u64 0, .int .i64 2, .int .u64 0, .int .u64 0, .string text] ∧ Below w.heap.size w W') ⟨Blk.eq_cs ((((((B1.out.set_ 0 _).set_ 1 _).set_ 2 _).set_ 3 _).set_ 4 _).set_ 5 _) rfl, ?_⟩ ?_
      · repeat (refine Below.setCell ?_ (by exact Nat.le_refl _) _)
        exact hb1.out
      rintro W' ⟨g1, g2⟩
      have e0 := g1.cell 0
      have e1 := g1.cell 1
      have e2 := g1.cell 2
      have e3 := g1.cell 3
      have e4 := g1.cell 4
      have e5 := g1.cell 5
      exact bodyPost_ret (v := .tuple #[.agg #[.int .i64 5, .int .u64 0, .int .i64 2, .int .u64 0, .int .u64 0, .string text], .bool true]) (by simp [results, Try.results36, go_sem, e0, e1, e2, e3, e4, e5]) rfl ⟨rfl, g2⟩
  · simp (config := { decide := true }) only [if_true, if_false]
    rcases hx : res.act with ⟨⟨xk, xb, xc, xo, xn, xt⟩, mo⟩
    rw [hx] at hRA2
    replace hx := Lib.hid hx
    change Calls Try.prog _ _ _ (fun e w' => e = .returned (.tuple #[.agg #[.int .i64 xk, .int .u64 xb, .int .i64 xc, .int .u64 xo, .int .u64 xn, .string xt], .bool mo]) ∧ _) at hRA2 ⊢
    replace hRA2 := Lib.hid hRA2
    as_aux_lemma =>
      go_enter Try.func36, Try.ntmps36
      go_wp2_with fail
      refine (hRA2.out).mono ?_; rintro e w1 ⟨rfl, hb⟩
      have B1 := B0.out.below hb B0.out.lt
      have hb1 := nx hz.out (Nat.le_refl _) hb
      clear hb c0 c1 c2 c3 c4 c5 c6 c7 c8 c10 c11
      have b1c0 := B1.cell 0
      have b1c1 := B1.cell 1
      have b1c2 := B1.cell 2
      have b1c3 := B1.cell 3
      have b1c4 := B1.cell 4
      have b1c5 := B1.cell 5
      have b1f0 := B1.frozen 0
      have b1f1 := B1.frozen 1
      have b1f2 := B1.frozen 2
      have b1f3 := B1.frozen 3
      have b1f4 := B1.frozen 4
      have b1f5 := B1.frozen 5
      replace B1 := Lib.hid B1
      replace hb1 := Lib.hid hb1
      go_wp2_with fail
      refine gen_world (α := fun W' => bodyPost _ _ _ _ _ W') (fun W' => Blk W' w.heap.size 31 #[.int .i64 xk, .int .u64 xb, .int .i64 xc, .int .u64 xo, .int .u64 xn, .string xt] ∧ Below w.heap.size w W') ⟨Blk.eq_cs ((((((B1.out.set_ 0 _).set_ 1 _).set_ 2 _).set_ 3 _).set_ 4 _).set_ 5 _) rfl, ?_⟩ ?_
      · repeat (refine Below.setCell ?_ (by exact Nat.le_refl _) _)
        exact hb1.out
      rintro W' ⟨g1, g2⟩
      have e0 := g1.cell 0
      have e1 := g1.cell 1
      have e2 := g1.cell 2
      have e3 := g1.cell 3
      have e4 := g1.cell 4
      have e5 := g1.cell 5
      exact bodyPost_ret (v := .tuple #[.agg #[.int .i64 xk, .int .u64 xb, .int .i64 xc, .int .u64 xo, .int .u64 xn, .string xt], .bool mo]) (by simp [results, Try.results36, go_sem, e0, e1, e2, e3, e4, e5]) rfl ⟨rfl, g2⟩
  · simp (config := { decide := true }) only [if_true, if_false]
    have hP := fun W => handPut_any cfg hr ticket record htk W
    generalize ringAt cfg ticket = ra at *
    rw [show cfg.val = .agg #[.int .i64 cfg.cap, .int .i64 cfg.pins, .int .i64 cfg.shelves, .int .i64 cfg.queue, .int .i64 cfg.watchers, .int .u64 cfg.seed] from rfl] at hP
    exact handAct3_any hBc.out hP
  · simp (config := { decide := true }) only [if_false]
    change Calls Try.prog _ _ _ (fun e w' => e = .returned (.tuple #[.agg #[.int .i64 0, .int .u64 0, .int .i64 0, .int .u64 0, .int .u64 0, .string ⟨#[]⟩], .bool false]) ∧ _)
    replace hRA2 := Lib.hid hRA2
    as_aux_lemma =>
      go_enter Try.func36, Try.ntmps36
      go_wp2_with fail
      refine (handNone_any _).mono ?_; rintro e w1 ⟨rfl, hb⟩
      have B1 := B0.out.below hb B0.out.lt
      have hb1 := nx hz.out (Nat.le_refl _) hb
      clear hb c0 c1 c2 c3 c4 c5 c6 c7 c8 c10 c11
      have b1c0 := B1.cell 0
      have b1c1 := B1.cell 1
      have b1c2 := B1.cell 2
      have b1c3 := B1.cell 3
      have b1c4 := B1.cell 4
      have b1c5 := B1.cell 5
      have b1f0 := B1.frozen 0
      have b1f1 := B1.frozen 1
      have b1f2 := B1.frozen 2
      have b1f3 := B1.frozen 3
      have b1f4 := B1.frozen 4
      have b1f5 := B1.frozen 5
      replace B1 := Lib.hid B1
      replace hb1 := Lib.hid hb1
      go_wp2_with fail
      refine gen_world (α := fun W' => bodyPost _ _ _ _ _ W') (fun W' => Blk W' w.heap.size 31 #[.int .i64 0, .int .u64 0, .int .i64 0, .int .u64 0, .int .u64 0, .string ⟨#[]⟩] ∧ Below w.heap.size w W') ⟨Blk.eq_cs ((((((B1.out.set_ 0 _).set_ 1 _).set_ 2 _).set_ 3 _).set_ 4 _).set_ 5 _) rfl, ?_⟩ ?_
      · repeat (refine Below.setCell ?_ (by exact Nat.le_refl _) _)
        exact hb1.out
      rintro W' ⟨g1, g2⟩
      have e0 := g1.cell 0
      have e1 := g1.cell 1
      have e2 := g1.cell 2
      have e3 := g1.cell 3
      have e4 := g1.cell 4
      have e5 := g1.cell 5
      exact bodyPost_ret (v := .tuple #[.agg #[.int .i64 0, .int .u64 0, .int .i64 0, .int .u64 0, .int .u64 0, .string ⟨#[]⟩], .bool false]) (by simp [results, Try.results36, go_sem, e0, e1, e2, e3, e4, e5]) rfl ⟨rfl, g2⟩
end Go.Proofs.Ytfelkkbgbgnpaaa
