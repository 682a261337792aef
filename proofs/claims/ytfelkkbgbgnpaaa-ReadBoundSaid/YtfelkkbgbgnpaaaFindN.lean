import Derived.Test.YtfelkkbgbgnpaaaPlan
import Derived.Test.YtfelkkbgbgnpaaaStir
import Derived.Test.YtfelkkbgbgnpaaaDrive
import Derived.BigQuiet
import Derived.Deep.RegionWith
import Derived.Deep.RegionHeld3
/-
  The routine that looks for a key's shelf (layer 23): what each of its functions does. No condition.
-/
namespace Go.Proofs.Ytfelkkbgbgnpaaa
set_option linter.unusedVariables false
open Go.ChangeShapes Go.WideShapes Go.ChangeAt Go.RowKit
open Go.ChangeMaps (setBlock)

structure PFind where
  cfg : PCfg
  key : ByteArray
  sum : Int
  i : Int
  block : Int
  kind : Int
  shelf : Int
  made : Bool
def PFind.cells (s : PFind) : Array Value := #[.int .i64 s.cfg.cap, .int .i64 s.cfg.pins, .int .i64 s.cfg.shelves, .int .i64 s.cfg.queue, .int .i64 s.cfg.watchers, .int .u64 s.cfg.seed, .string s.key, .int .u64 s.sum, .int .i64 s.i, .int .u64 s.block, .int .i64 s.kind, .int .i64 s.shelf, .bool s.made]
def PFind.place (s : PFind) : Int := placeP s.sum s.cfg.shelves s.i
def PFind.idle (s : PFind) : Bool := !s.made || s.kind != 0
structure FindIn (w : World) (b : Nat) (s : PFind) : Prop where
  blk : Blk w b 195 s.cells
  right : s.made = true → s.cfg.Right
  i : s.made = true → 0 ≤ s.i ∧ s.i ≤ s.cfg.shelves ∧ (s.kind = 0 → s.i < s.cfg.shelves)
  sum : 0 ≤ s.sum ∧ s.sum ≤ 18446744073709551615
  block : 0 ≤ s.block ∧ s.block ≤ 18446744073709551615
  kind : 0 ≤ s.kind ∧ s.kind ≤ 3
  free : s.kind = 0 → s.shelf = 0
  key : s.key.size ≤ 9223372036854775807
theorem FindIn.keep {w w' : World} {b : Nat} {s : PFind} (h : FindIn w b s) (hb : w'.heap[b]? = w.heap[b]?) : FindIn w' b s := ⟨h.blk.keep hb, h.right, h.i, h.sum, h.block, h.kind, h.free, h.key⟩
theorem FindIn.below {w w' : World} {b : Nat} {s : PFind} (h : FindIn w b s) (hb : Below w.heap.size w w') : FindIn w' b s := h.keep (hb.block _ h.blk.lt)
/-- What it does next. -/
def PFind.act (s : PFind) : PAct × Bool :=
  if s.idle then (noAct, false)
  else if s.block ≠ 0 then (⟨6, s.block, 0, 0, 0, ByteArray.empty⟩, true)
  else (⟨1, 1, 3 + s.cfg.pins + s.cfg.cap + 2 * s.place, 0, 0, ByteArray.empty⟩, true)
/-- What it takes. -/
def PFind.take (s : PFind) (g : PGot) : PFind :=
  if s.idle then s
  else if s.block = 0 then
    if g.word = 0 then { s with kind := 2, shelf := s.place } else { s with block := g.word }
  else if g.text = s.key then { s with kind := 1, shelf := s.place }
  else if s.i + 1 = s.cfg.shelves then { s with block := 0, i := s.i + 1, kind := 3, shelf := 0 }
  else { s with block := 0, i := s.i + 1 }
def PFind.result (s : PFind) : (Int × Int) × Bool := if s.kind = 0 then ((0, 0), false) else ((s.kind, s.shelf), true)
theorem fover_nil (w : World) : Calls Try.prog 111 #[.pointer none] w fun e w' => e = .returned (.bool true) ∧ w = w' := by
  go_enter Try.func111, Try.ntmps111
  go_wp2_with fail
  go_ret
  exact ⟨rfl, rfl⟩
set_option maxHeartbeats 1000000 in
theorem fover_any {w : World} {b : Nat} {s : PFind} (h : FindIn w b s) : Calls Try.prog 111 #[.pointer (some ⟨b, 0, none⟩)] w fun e w' => e = .returned (.bool s.idle) ∧ w = w' := by
  have hE : s.idle = (!s.made || s.kind != 0) := rfl
  rw [hE]
  clear hE
  have hk := h.kind
  have hf := h.free
  obtain ⟨⟨a, p, sh, q, t, z⟩, key, sum, i, block, kind, shelf, made⟩ := s
  have hB : Blk w b 195 #[.int .i64 a, .int .i64 p, .int .i64 sh, .int .i64 q, .int .i64 t, .int .u64 z, .string key, .int .u64 sum, .int .i64 i, .int .u64 block, .int .i64 kind, .int .i64 shelf, .bool made] := h.blk
  have c10 := hB.cell 10
  have c11 := hB.cell 11
  have c12 := hB.cell 12
  simp only at hk hf ⊢
  have hlt := hB.lt
  replace hB := Lib.hid hB
  replace h := Lib.hid h
  cases made with
  | false =>
    go_enter Try.func111, Try.ntmps111
    go_wp2_with fail
    go_ret
    exact ⟨rfl, rfl⟩
  | true =>
    by_cases hk0 : kind = 0
    · obtain rfl := hf hk0
      subst hk0
      clear hf
      go_enter Try.func111, Try.ntmps111
      go_wp2_with fail
      go_ret
      exact ⟨rfl, rfl⟩
    · have d1 : (kind == 0) = false := by simp [hk0]
      have d2 : (kind != 0) = true := by simp [hk0]
      rw [d2]
      clear hf
      replace hk0' := Lib.hid hk0
      go_enter Try.func111, Try.ntmps111
      go_wp2_with fail
      go_ret
      exact ⟨by simp, rfl⟩
set_option maxHeartbeats 1000000 in
theorem findResult_any {w : World} {b : Nat} {s : PFind} (h : FindIn w b s) : Calls Try.prog 77 #[.pointer (some ⟨b, 0, none⟩)] w fun e w' => e = .returned (.tuple #[.agg #[.int .i64 s.result.1.1, .int .i64 s.result.1.2], .bool s.result.2]) ∧ Below w.heap.size w w' := by
  have hr : s.result = if s.kind = 0 then ((0, 0), false) else ((s.kind, s.shelf), true) := rfl
  rw [hr]
  clear hr
  have hf := h.free
  obtain ⟨⟨a, p, sh, q, t, z⟩, key, sum, i, block, kind, shelf, made⟩ := s
  have hB : Blk w b 195 #[.int .i64 a, .int .i64 p, .int .i64 sh, .int .i64 q, .int .i64 t, .int .u64 z, .string key, .int .u64 sum, .int .i64 i, .int .u64 block, .int .i64 kind, .int .i64 shelf, .bool made] := h.blk
  have c10 := hB.cell 10
  have c11 := hB.cell 11
  simp only at hf ⊢
  have hlt := hB.lt
  replace hB := Lib.hid hB
  replace h := Lib.hid h
  by_cases hk0 : kind = 0
  · obtain rfl := hf hk0
    subst hk0
    clear hf
    simp only [if_true]
    go_enter Try.func77, Try.ntmps77
    go_wp2_with fail
    refine bodyPost_ret (v := .tuple #[.agg #[.int .i64 0, .int .i64 0], .bool false]) (by simp [results, Try.results77, go_sem]) rfl ⟨by simp, ?_⟩
    (repeat first | exact Below.refl _ _ | assumption | refine Below.drew ?_ | refine below_drewN ?_ _ | refine Below.more_ ?_ _ | refine Below.setCell ?_ (by first | exact Nat.le_refl _ | (simp; done) | (simp; omega)) _)
  · have d1 : (kind == 0) = false := by simp [hk0]
    rw [if_neg hk0]
    clear hf
    replace hk0' := Lib.hid hk0
    go_enter Try.func77, Try.ntmps77
    go_wp2_with fail
    refine bodyPost_ret (v := .tuple #[.agg #[.int .i64 kind, .int .i64 shelf], .bool true]) (by simp [results, Try.results77, go_sem]) rfl ⟨by simp, ?_⟩
    (repeat first | exact Below.refl _ _ | assumption | refine Below.drew ?_ | refine below_drewN ?_ _ | refine Below.more_ ?_ _ | refine Below.setCell ?_ (by first | exact Nat.le_refl _ | (simp; done) | (simp; omega)) _)
set_option maxRecDepth 100000 in
set_option maxHeartbeats 2000000 in
theorem fshelf_any {w : World} {b : Nat} {s : PFind} (h : FindIn w b s) (hm : s.made = true) (hk0 : s.kind = 0) : Calls Try.prog 112 #[.pointer (some ⟨b, 0, none⟩)] w fun e w' => e = .returned (.int .i64 s.place) ∧ ∃ n, w' = w.drewN n := by
  have hi := h.i hm
  have hs := (h.right hm).shelves
  have hPl := fun W => place_any s.sum s.cfg.shelves s.i h.sum hs ⟨hi.1, hi.2.2 hk0⟩ W
  have hP : s.place = placeP s.sum s.cfg.shelves s.i := rfl
  rw [← hP] at hPl
  clear hP
  generalize s.place = pl at *
  obtain ⟨⟨a, p, sh, q, t, z⟩, key, sum, i, block, kind, shelf, made⟩ := s
  have hB : Blk w b 195 #[.int .i64 a, .int .i64 p, .int .i64 sh, .int .i64 q, .int .i64 t, .int .u64 z, .string key, .int .u64 sum, .int .i64 i, .int .u64 block, .int .i64 kind, .int .i64 shelf, .bool made] := h.blk
  have c2 := hB.cell 2
  have c7 := hB.cell 7
  have c8 := hB.cell 8
  simp only at hPl
  have hlt := hB.lt
  replace hB := Lib.hid hB
  replace h := Lib.hid h
  replace hi := Lib.hid hi
  replace hPl := Lib.hid hPl
  replace hm := Lib.hid hm
  replace hk0 := Lib.hid hk0
  go_enter Try.func112, Try.ntmps112
  go_wp2_with fail
  go_quiet ((go_at_call 144; exact Calls.quiet_of_same ((hPl.out _).mono fun _ _ hp => ⟨hp.1, hp.2.symm⟩)))
  go_wp2_with fail
  go_ret
  exact ⟨rfl, _, rfl⟩
theorem findAct_nil (w : World) : Calls Try.prog 62 #[.pointer none] w fun e w' => e = .returned (.tuple #[.agg #[.int .i64 0, .int .u64 0, .int .i64 0, .int .u64 0, .int .u64 0, .string ⟨#[]⟩], .bool false]) ∧ Below w.heap.size w w' := by
  go_enter Try.func62, Try.ntmps62
  go_wp2_with fail
  refine (fover_nil _).mono ?_; rintro e w1 ⟨rfl, rfl⟩
  go_wp2_with fail
  refine bodyPost_ret (v := .tuple #[.agg #[.int .i64 0, .int .u64 0, .int .i64 0, .int .u64 0, .int .u64 0, .string ⟨#[]⟩], .bool false]) (by simp [results, Try.results62, go_sem]) rfl ⟨rfl, ?_⟩
  (repeat first | exact Below.refl _ _ | assumption | refine Below.drew ?_ | refine below_drewN ?_ _ | refine Below.more_ ?_ _ | refine Below.setCell ?_ (by first | exact Nat.le_refl _ | (simp; done) | (simp; omega)) _)
set_option maxRecDepth 100000 in
set_option maxHeartbeats 8000000 in
theorem findAct_any {w : World} {b : Nat} {s : PFind} (h : FindIn w b s) : Calls Try.prog 62 #[.pointer (some ⟨b, 0, none⟩)] w fun e w' => e = .returned (.tuple #[s.act.1.val, .bool s.act.2]) ∧ Below w.heap.size w w' := by
  have hO := fun W (hb : Below w.heap.size w W) => fover_any (h.below hb)
  have hA : s.act = if s.idle then (noAct, false) else if s.block ≠ 0 then (⟨6, s.block, 0, 0, 0, ByteArray.empty⟩, true) else (⟨1, 1, 3 + s.cfg.pins + s.cfg.cap + 2 * s.place, 0, 0, ByteArray.empty⟩, true) := rfl
  have hSh := fun W (hb : Below w.heap.size w W) (h1 : s.made = true) (h2 : s.kind = 0) => fshelf_any (h.below hb) h1 h2
  have hI : s.idle = (!s.made || s.kind != 0) := rfl
  have hKy : s.made = true → s.kind = 0 → ∀ W, Calls Try.prog 78 #[s.cfg.val, .int .i64 s.place] W fun e w' => e = .returned (.int .i64 (3 + s.cfg.pins + s.cfg.cap + 2 * s.place)) ∧ Below W.heap.size W w' := fun h1 h2 W => planKey_any s.cfg (h.right h1) s.place (placeP_ok _ _ _ (h.right h1).shelves.1) W
  rw [hA]
  clear hA
  generalize s.place = pl at *
  cases hid : s.idle with
  | true =>
    rw [hid] at hO
    have hz : Below w.heap.size w (w.alloc (.cells #[.int .i64 0, .int .u64 0, .int .i64 0, .int .u64 0, .int .u64 0, .string ⟨#[]⟩] 31)) := (Below.refl _ _).alloc (Nat.le_refl _) _
    simp only [if_true]
    rw [show PAct.val noAct = .agg #[.int .i64 0, .int .u64 0, .int .i64 0, .int .u64 0, .int .u64 0, .string ⟨#[]⟩] from rfl]
    replace h := Lib.hid h
    replace hO := Lib.hid hO
    replace hz := Lib.hid hz
    replace hSh := Lib.hid hSh
    replace hKy := Lib.hid hKy
    replace hI := Lib.hid hI
    replace hid := Lib.hid hid
    go_enter Try.func62, Try.ntmps62
    go_wp2_with fail
    refine (hO.out _ hz.out).mono ?_; rintro e w1 ⟨rfl, rfl⟩
    go_wp2_with fail
    refine bodyPost_ret (v := .tuple #[.agg #[.int .i64 0, .int .u64 0, .int .i64 0, .int .u64 0, .int .u64 0, .string ⟨#[]⟩], .bool false]) (by simp [results, Try.results62, go_sem]) rfl ⟨rfl, ?_⟩
    (repeat first | exact Below.refl _ _ | assumption | refine Below.drew ?_ | refine below_drewN ?_ _ | refine Below.more_ ?_ _ | refine Below.setCell ?_ (by first | exact Nat.le_refl _ | (simp; done) | (simp; omega)) _)
  | false =>
    rw [hid] at hO hI
    have hmk : s.made = true ∧ s.kind = 0 := by
      cases hm : s.made with
      | false => rw [hm] at hI; cases hI
      | true => rw [hm] at hI; exact ⟨rfl, by simpa using hI.symm⟩
    have hSh2 := fun W hb => hSh W hb hmk.1 hmk.2
    have hKy2 := fun W => hKy hmk.1 hmk.2 W
    have hz : Below w.heap.size w (w.alloc (.cells #[.int .i64 0, .int .u64 0, .int .i64 0, .int .u64 0, .int .u64 0, .string ⟨#[]⟩] 31)) := (Below.refl _ _).alloc (Nat.le_refl _) _
    have B1 := Blk.new w 31 #[.int .i64 0, .int .u64 0, .int .i64 0, .int .u64 0, .int .u64 0, .string ⟨#[]⟩]
    have hbk := h.block
    have hlt := h.blk.lt
    simp only [Bool.false_eq_true, if_false]
    clear hSh hKy hid hI hmk
    obtain ⟨⟨a, p, sh, q, t, z⟩, key, sum, i, block, kind, shelf, made⟩ := s
    have hB : Blk w b 195 #[.int .i64 a, .int .i64 p, .int .i64 sh, .int .i64 q, .int .i64 t, .int .u64 z, .string key, .int .u64 sum, .int .i64 i, .int .u64 block, .int .i64 kind, .int .i64 shelf, .bool made] := h.blk
    have c0 := hB.cell 0
    have c1 := hB.cell 1
    have c2 := hB.cell 2
    have c3 := hB.cell 3
    have c4 := hB.cell 4
    have c5 := hB.cell 5
    have c9 := hB.cell 9
    simp only at hKy2 hbk ⊢
    rw [show PCfg.val ⟨a, p, sh, q, t, z⟩ = .agg #[.int .i64 a, .int .i64 p, .int .i64 sh, .int .i64 q, .int .i64 t, .int .u64 z] from rfl] at hKy2
    replace h := Lib.hid h
    replace hB := Lib.hid hB
    replace B1 := Lib.hid B1
    replace hO := Lib.hid hO
    replace hz := Lib.hid hz
    replace hSh2 := Lib.hid hSh2
    replace hKy2 := Lib.hid hKy2
    by_cases hb0 : block = 0
    · subst hb0
      simp only [ne_eq, not_true_eq_false, if_false]
      generalize hce : 3 + p + sh * 0 + a + 2 * pl = ce0 at *
      have hce2 : 3 + p + a + 2 * pl = ce0 := by rw [← hce]; omega
      rw [hce2] at hKy2 ⊢
      replace hce := Lib.hid hce
      replace hce2 := Lib.hid hce2
      rw [show PAct.val ⟨1, 1, ce0, 0, 0, ByteArray.empty⟩ = .agg #[.int .i64 1, .int .u64 1, .int .i64 ce0, .int .u64 0, .int .u64 0, .string ⟨#[]⟩] from rfl]
      go_enter Try.func62, Try.ntmps62
      go_wp2_with fail
      refine (hO.out _ hz.out).mono ?_; rintro e w1 ⟨rfl, rfl⟩
      go_wp2_with fail
      go_region_with (first | (go_at_call 112; refine (hSh2.out _ (by first | exact hz.out | exact hz.out.drew | exact below_drewN hz.out _ | exact (below_drewN hz.out _).drew)).mono ?_; rintro e w1 ⟨rfl, n1, rfl⟩) | (go_at_call 78; refine (hKy2.out _).mono ?_; rintro e w2 ⟨rfl, hb⟩; have A2 : Blk w2 w.heap.size 31 #[.int .i64 0, .int .u64 0, .int .i64 0, .int .u64 0, .int .u64 0, .string ⟨#[]⟩] := (by first | exact (B1.out.drewN _).below hb (B1.out.drewN _).lt | exact (B1.out.drew).below hb B1.out.drew.lt | exact ((B1.out.drewN _).drew).below hb (B1.out.drewN _).drew.lt); have hb1 : Below w.heap.size w w2 := Below.next_ (by first | exact hz.out | exact hz.out.drew | exact below_drewN hz.out _ | exact (below_drewN hz.out _).drew | exact below_drewN (below_drewN hz.out _) _ | exact (below_drewN (below_drewN hz.out _) _).drew | exact below_drewN (hz.out.drew) _ | exact (below_drewN hz.out.drew _).drew) hb; have f0 := A2.frozen 0; have f1 := A2.frozen 1; have f2 := A2.frozen 2; have f3 := A2.frozen 3; have f4 := A2.frozen 4; have f5 := A2.frozen 5; have g0 := A2.cell 0; have g1 := A2.cell 1; have g2 := A2.cell 2; have g3 := A2.cell 3; have g4 := A2.cell 4; have g5 := A2.cell 5; replace A2 := Lib.hid A2; replace hb1 := Lib.hid hb1; clear hb))
      all_goals
        go_wp2_with fail
        refine gen_world (α := fun W' => bodyPost _ _ _ _ _ W') (fun W' => Blk W' w.heap.size 31 #[.int .i64 1, .int .u64 1, .int .i64 ce0, .int .u64 0, .int .u64 0, .string ⟨#[]⟩] ∧ Below w.heap.size w W') ⟨?_, ?_⟩ ?_
        · exact Blk.eq_cs ((((((A2.out.set_ 0 _).set_ 1 _).set_ 2 _).set_ 3 _).set_ 4 _).set_ 5 _) rfl
        · repeat (refine Below.setCell ?_ (by exact Nat.le_refl _) _)
          exact hb1.out
        rintro W' ⟨q1, q2⟩
        have e0 := q1.cell 0
        have e1 := q1.cell 1
        have e2 := q1.cell 2
        have e3 := q1.cell 3
        have e4 := q1.cell 4
        have e5 := q1.cell 5
        exact bodyPost_ret (v := .tuple #[.agg #[.int .i64 1, .int .u64 1, .int .i64 ce0, .int .u64 0, .int .u64 0, .string ⟨#[]⟩], .bool true]) (by simp [results, Try.results62, go_sem, e0, e1, e2, e3, e4, e5]) rfl ⟨rfl, q2⟩
    · have d1 : (block == 0) = false := by simp [hb0]
      rw [if_pos (by simpa using hb0)]
      replace hb0' := Lib.hid hb0
      clear hKy2 hSh2
      rw [show PAct.val ⟨6, block, 0, 0, 0, ByteArray.empty⟩ = .agg #[.int .i64 6, .int .u64 block, .int .i64 0, .int .u64 0, .int .u64 0, .string ⟨#[]⟩] from rfl]
      go_enter Try.func62, Try.ntmps62
      go_wp2_with fail
      refine (hO.out _ hz.out).mono ?_; rintro e w1 ⟨rfl, rfl⟩
      go_wp2_with fail
      refine bodyPost_ret (v := .tuple #[.agg #[.int .i64 6, .int .u64 block, .int .i64 0, .int .u64 0, .int .u64 0, .string ⟨#[]⟩], .bool true]) (by simp [results, Try.results62, go_sem]) rfl ⟨rfl, ?_⟩
      (repeat first | exact Below.refl _ _ | assumption | refine Below.drew ?_ | refine below_drewN ?_ _ | refine Below.more_ ?_ _ | refine Below.setCell ?_ (by first | exact Nat.le_refl _ | (simp; done) | (simp; omega)) _)
end Go.Proofs.Ytfelkkbgbgnpaaa

/-
  The routine that looks for a key's shelf (layer 23): what it takes. No condition.
-/
namespace Go.Proofs.Ytfelkkbgbgnpaaa
set_option linter.unusedVariables false
open Go.ChangeShapes Go.WideShapes Go.ChangeAt Go.RowKit
open Go.ChangeMaps (setBlock)

theorem ftxt_ne {x y : ByteArray} (h : x ≠ y) : ¬ x.toList = y.toList := fun e => h (by rw [ByteArray.toList_eq, ByteArray.toList_eq] at e; exact ByteArray.ext (Array.toList_inj.mp e))
set_option maxRecDepth 100000 in
set_option maxHeartbeats 16000000 in
theorem findTake_any {w : World} {b : Nat} {s : PFind} (h : FindIn w b s) (g : PGot) (hg : g.Ok) : Calls Try.prog 71 #[.pointer (some ⟨b, 0, none⟩), g.val] w fun e w' => e = .returned (.tuple #[]) ∧ FindIn w' b (s.take g) ∧ Chg (fun k => k = b) w w' := by
  have hO := fun W (hb : Below w.heap.size w W) => fover_any (h.below hb)
  obtain ⟨gw, gt⟩ := g
  rw [show PGot.val ⟨gw, gt⟩ = .agg #[.int .u64 gw, .string gt] from rfl]
  have hz : Below w.heap.size w (w.alloc (.cells #[.int .u64 gw, .string gt] 53)) := (Below.refl _ _).alloc (Nat.le_refl _) _
  cases hid : s.idle with
  | true =>
    rw [hid] at hO
    have hT : s.take ⟨gw, gt⟩ = s := by unfold PFind.take; rw [if_pos hid]
    rw [hT]
    replace hO := Lib.hid hO
    replace hid := Lib.hid hid
    go_enter Try.func71, Try.ntmps71
    go_wp2
    go_step3
    go_wp2_with fail
    refine (hO.out _ hz).mono ?_; rintro e w1 ⟨rfl, rfl⟩
    go_wp2_with fail
    rw [Exit.noGoto_ret]
    exact bodyPost_ret (v := .tuple #[]) (results_none (by kernel_rfl) _ _ _) rfl ⟨rfl, h.below hz, Chg.of_below hz _⟩
  | false =>
    rw [hid] at hO
    have hmk : s.made = true ∧ s.kind = 0 := by
      have hI : s.idle = (!s.made || s.kind != 0) := rfl
      rw [hid] at hI
      cases hm : s.made with
      | false => rw [hm] at hI; cases hI
      | true => rw [hm] at hI; exact ⟨rfl, by simpa using hI.symm⟩
    have hsh0 := h.free hmk.2
    have hR := h.right hmk.1
    have hi := h.i hmk.1
    have hil := hi.2.2 hmk.2
    have hsr := hR.shelves
    have hSh := fun W (hb : Below w.heap.size w W) => fshelf_any (h.below hb) hmk.1 hmk.2
    have hT : s.take ⟨gw, gt⟩ = if s.block = 0 then (if gw = 0 then { s with kind := 2, shelf := s.place } else { s with block := gw }) else if gt = s.key then { s with kind := 1, shelf := s.place } else if s.i + 1 = s.cfg.shelves then { s with block := 0, i := s.i + 1, kind := 3, shelf := 0 } else { s with block := 0, i := s.i + 1 } := by unfold PFind.take; rw [if_neg (by rw [hid]; simp)]
    rw [hT]
    generalize s.place = pl at *
    have hsum := h.sum
    have hblk := h.block
    have hkey := h.key
    obtain ⟨hm, hk⟩ := hmk
    obtain ⟨⟨a, p, sh, q, t, z⟩, key, sum, i, block, kind, shelf, made⟩ := s
    simp only at hm hk hsh0 hi hil hsr hsum hblk hkey hT ⊢
    subst hm hk hsh0
    have hB : Blk w b 195 #[.int .i64 a, .int .i64 p, .int .i64 sh, .int .i64 q, .int .i64 t, .int .u64 z, .string key, .int .u64 sum, .int .i64 i, .int .u64 block, .int .i64 0, .int .i64 0, .bool true] := h.blk
    have c2 := hB.cell 2
    have c6 := hB.cell 6
    have c8 := hB.cell 8
    have c9 := hB.cell 9
    have c10 := hB.cell 10
    have c11 := hB.cell 11
    have f8 := hB.frozen 8
    have f9 := hB.frozen 9
    have f10 := hB.frozen 10
    have f11 := hB.frozen 11
    have hlt := hB.lt
    have hw : IntKind.i64.wrap (i + 1) = i + 1 := IntWalk.i64_in _ (by omega)
    replace h := Lib.hid h
    replace hB := Lib.hid hB
    replace hT := Lib.hid hT
    replace hO := Lib.hid hO
    replace hSh := Lib.hid hSh
    replace hid := Lib.hid hid
    replace hz := Lib.hid hz
    have hR := Lib.hid hR
    by_cases hb0 : block = 0
    · subst hb0
      simp only [if_true]
      by_cases hg0 : gw = 0
      · subst hg0
        simp only [if_true]
        as_aux_lemma =>
          go_enter Try.func71, Try.ntmps71
          go_wp2
          go_step3
          go_wp2_with fail
          refine (hO.out _ hz.out).mono ?_; rintro e w1 ⟨rfl, rfl⟩
          go_wp2_with fail
          go_step3
          go_wp2_with fail
          go_loopw [30] (fun _ W => W = w.alloc (.cells #[.int .u64 0, .string gt] 53)) (fun _ _ => 0)
          case atStart => exact rfl
          subst hrel
          go_wp2_with fail
          refine (hSh.out _ (by first | exact hz.out | exact hz.out.drew | exact below_drewN hz.out _ | exact (below_drewN hz.out _).drew)).mono ?_; rintro e w1 ⟨rfl, n1, rfl⟩
          go_wp2_with fail
          rw [Exit.noGoto_normal]
          refine gen_world (α := fun W' => bodyPost _ _ _ _ _ W') (fun W' => Blk W' b 195 #[.int .i64 a, .int .i64 p, .int .i64 sh, .int .i64 q, .int .i64 t, .int .u64 z, .string key, .int .u64 sum, .int .i64 i, .int .u64 0, .int .i64 2, .int .i64 pl, .bool true] ∧ Chg (fun k => k = b) w W') ⟨?_, ?_⟩ ?_
          · refine Blk.eq_cs (cs := (((#[.int .i64 a, .int .i64 p, .int .i64 sh, .int .i64 q, .int .i64 t, .int .u64 z, .string key, .int .u64 sum, .int .i64 i, .int .u64 0, .int .i64 0, .int .i64 0, .bool true] : Array Value).setIfInBounds 10 (.int .i64 2)).setIfInBounds 11 (.int .i64 pl))) ?_ rfl
            have hB := hB.out
            (repeat first | with_reducible exact hB | with_reducible refine Blk.drewN ?_ _ | with_reducible refine Blk.drew ?_ | with_reducible refine Blk.alloc ?_ _ | with_reducible refine Blk.set_ ?_ _ _ | refine Blk.far ?_ (by simp; omega) _)
          · have hC := Chg.refl (fun k => k = b) w
            repeat first | with_reducible exact hC | with_reducible refine Chg.drew ?_ | with_reducible refine Chg.drewN ?_ _ | with_reducible refine Chg.alloc ?_ _ | refine Chg.setCell ?_ (by left; rfl) _
          rintro W' ⟨g1, g2⟩
          exact bodyPost_end (v := .tuple #[]) (results_none (by kernel_rfl) _ _ _) rfl ⟨rfl, ⟨g1, fun _ => hR.out, fun _ => ⟨hi.1, hi.2.1, fun _ => hil⟩, hsum, hblk, by show (0 : Int) ≤ 2 ∧ (2 : Int) ≤ 3; decide, fun e => (by cases e), hkey⟩, g2⟩
      · rw [if_neg hg0]
        have d1 : (gw == 0) = false := by simp [hg0]
        replace hg0 := Lib.hid hg0
        as_aux_lemma =>
          go_enter Try.func71, Try.ntmps71
          go_wp2
          go_step3
          go_wp2_with fail
          refine (hO.out _ hz.out).mono ?_; rintro e w1 ⟨rfl, rfl⟩
          go_wp2_with fail
          go_step3
          go_wp2_with fail
          go_loopw [30] (fun _ W => W = w.alloc (.cells #[.int .u64 gw, .string gt] 53)) (fun _ _ => 0)
          case atStart => exact rfl
          subst hrel
          go_wp2_with fail
          rw [Exit.noGoto_normal]
          refine gen_world (α := fun W' => bodyPost _ _ _ _ _ W') (fun W' => Blk W' b 195 #[.int .i64 a, .int .i64 p, .int .i64 sh, .int .i64 q, .int .i64 t, .int .u64 z, .string key, .int .u64 sum, .int .i64 i, .int .u64 gw, .int .i64 0, .int .i64 0, .bool true] ∧ Chg (fun k => k = b) w W') ⟨?_, ?_⟩ ?_
          · refine Blk.eq_cs (cs := ((#[.int .i64 a, .int .i64 p, .int .i64 sh, .int .i64 q, .int .i64 t, .int .u64 z, .string key, .int .u64 sum, .int .i64 i, .int .u64 0, .int .i64 0, .int .i64 0, .bool true] : Array Value).setIfInBounds 9 (.int .u64 gw))) ?_ rfl
            have hB := hB.out
            (repeat first | with_reducible exact hB | with_reducible refine Blk.drewN ?_ _ | with_reducible refine Blk.drew ?_ | with_reducible refine Blk.alloc ?_ _ | with_reducible refine Blk.set_ ?_ _ _ | refine Blk.far ?_ (by simp; omega) _)
          · have hC := Chg.refl (fun k => k = b) w
            repeat first | with_reducible exact hC | with_reducible refine Chg.drew ?_ | with_reducible refine Chg.drewN ?_ _ | with_reducible refine Chg.alloc ?_ _ | refine Chg.setCell ?_ (by left; rfl) _
          rintro W' ⟨g1, g2⟩
          exact bodyPost_end (v := .tuple #[]) (results_none (by kernel_rfl) _ _ _) rfl ⟨rfl, ⟨g1, fun _ => hR.out, fun _ => ⟨hi.1, hi.2.1, fun _ => hil⟩, hsum, hg, by show (0 : Int) ≤ 0 ∧ (0 : Int) ≤ 3; decide, fun _ => rfl, hkey⟩, g2⟩
    · rw [if_neg hb0]
      have d1 : (block == 0) = false := by simp [hb0]
      replace hb0 := Lib.hid hb0
      by_cases hgk : gt = key
      · subst hgk
        simp only [if_true]
        as_aux_lemma =>
          go_enter Try.func71, Try.ntmps71
          go_wp2
          go_step3
          go_wp2_with fail
          refine (hO.out _ hz.out).mono ?_; rintro e w1 ⟨rfl, rfl⟩
          go_wp2_with fail
          go_step3
          go_wp2_with fail
          go_loopw [30] (fun _ W => W = w.alloc (.cells #[.int .u64 gw, .string gt] 53)) (fun _ _ => 0)
          case atStart => exact rfl
          subst hrel
          go_wp2_with fail
          go_quiet (fail)
          go_wp2_with fail
          refine (hSh.out _ (by first | exact hz.out | exact hz.out.drew | exact below_drewN hz.out _ | exact (below_drewN hz.out _).drew)).mono ?_; rintro e w1 ⟨rfl, n1, rfl⟩
          go_wp2_with fail
          rw [Exit.noGoto_normal]
          refine gen_world (α := fun W' => bodyPost _ _ _ _ _ W') (fun W' => Blk W' b 195 #[.int .i64 a, .int .i64 p, .int .i64 sh, .int .i64 q, .int .i64 t, .int .u64 z, .string gt, .int .u64 sum, .int .i64 i, .int .u64 block, .int .i64 1, .int .i64 pl, .bool true] ∧ Chg (fun k => k = b) w W') ⟨?_, ?_⟩ ?_
          · refine Blk.eq_cs (cs := (((#[.int .i64 a, .int .i64 p, .int .i64 sh, .int .i64 q, .int .i64 t, .int .u64 z, .string gt, .int .u64 sum, .int .i64 i, .int .u64 block, .int .i64 0, .int .i64 0, .bool true] : Array Value).setIfInBounds 10 (.int .i64 1)).setIfInBounds 11 (.int .i64 pl))) ?_ rfl
            have hB := hB.out
            (repeat first | with_reducible exact hB | with_reducible refine Blk.drewN ?_ _ | with_reducible refine Blk.drew ?_ | with_reducible refine Blk.alloc ?_ _ | with_reducible refine Blk.set_ ?_ _ _ | refine Blk.far ?_ (by simp; omega) _)
          · have hC := Chg.refl (fun k => k = b) w
            repeat first | with_reducible exact hC | with_reducible refine Chg.drew ?_ | with_reducible refine Chg.drewN ?_ _ | with_reducible refine Chg.alloc ?_ _ | refine Chg.setCell ?_ (by left; rfl) _
          rintro W' ⟨g1, g2⟩
          exact bodyPost_end (v := .tuple #[]) (results_none (by kernel_rfl) _ _ _) rfl ⟨rfl, ⟨g1, fun _ => hR.out, fun _ => ⟨hi.1, hi.2.1, fun _ => hil⟩, hsum, hblk, by show (0 : Int) ≤ 1 ∧ (1 : Int) ≤ 3; decide, fun e => (by cases e), hkey⟩, g2⟩
      · rw [if_neg hgk]
        have d2 := ftxt_ne hgk
        have d2b : (gt.toList == key.toList) = false := by rw [beq_eq_false_iff_ne]; exact d2
        replace hgk := Lib.hid hgk
        by_cases hie : i + 1 = sh
        · rw [if_pos hie]
          have d3 : (i + 1 == sh) = true := by simp [hie]
          have hie2 := Lib.hid hie
          clear hie
          as_aux_lemma =>
            go_enter Try.func71, Try.ntmps71
            go_wp2
            go_step3
            go_wp2_with fail
            refine (hO.out _ hz.out).mono ?_; rintro e w1 ⟨rfl, rfl⟩
            go_wp2_with fail
            go_step3
            go_wp2_with fail
            go_loopw [30] (fun _ W => W = w.alloc (.cells #[.int .u64 gw, .string gt] 53)) (fun _ _ => 0)
            case atStart => exact rfl
            subst hrel
            go_wp2_with fail
            go_quiet (fail)
            go_wp2_with fail
            go_quiet (fail)
            go_wp2_with fail
            rw [Exit.noGoto_normal]
            refine gen_world (α := fun W' => bodyPost _ _ _ _ _ W') (fun W' => Blk W' b 195 #[.int .i64 a, .int .i64 p, .int .i64 sh, .int .i64 q, .int .i64 t, .int .u64 z, .string key, .int .u64 sum, .int .i64 (i + 1), .int .u64 0, .int .i64 3, .int .i64 0, .bool true] ∧ Chg (fun k => k = b) w W') ⟨?_, ?_⟩ ?_
            · refine Blk.eq_cs (cs := (((((#[.int .i64 a, .int .i64 p, .int .i64 sh, .int .i64 q, .int .i64 t, .int .u64 z, .string key, .int .u64 sum, .int .i64 i, .int .u64 block, .int .i64 0, .int .i64 0, .bool true] : Array Value).setIfInBounds 9 (.int .u64 0)).setIfInBounds 8 (.int .i64 (i + 1))).setIfInBounds 10 (.int .i64 3)).setIfInBounds 11 (.int .i64 0))) ?_ rfl
              have hB := hB.out
              (repeat first | with_reducible exact hB | with_reducible refine Blk.drewN ?_ _ | with_reducible refine Blk.drew ?_ | with_reducible refine Blk.alloc ?_ _ | with_reducible refine Blk.set_ ?_ _ _ | refine Blk.far ?_ (by simp; omega) _)
            · have hC := Chg.refl (fun k => k = b) w
              repeat first | with_reducible exact hC | with_reducible refine Chg.drew ?_ | with_reducible refine Chg.drewN ?_ _ | with_reducible refine Chg.alloc ?_ _ | refine Chg.setCell ?_ (by left; rfl) _
            rintro W' ⟨g1, g2⟩
            exact bodyPost_end (v := .tuple #[]) (results_none (by kernel_rfl) _ _ _) rfl ⟨rfl, ⟨g1, fun _ => hR.out, fun _ => ⟨by show 0 ≤ i + 1; omega, by show i + 1 ≤ sh; have := hie2.out; omega, fun e => by cases e⟩, hsum, by show (0 : Int) ≤ 0 ∧ (0 : Int) ≤ 18446744073709551615; decide, by show (0 : Int) ≤ 3 ∧ (3 : Int) ≤ 3; decide, fun _ => rfl, hkey⟩, g2⟩
        · rw [if_neg hie]
          have d3 : (i + 1 == sh) = false := by simp [hie]
          have hie2 := Lib.hid hie
          clear hie
          as_aux_lemma =>
            go_enter Try.func71, Try.ntmps71
            go_wp2
            go_step3
            go_wp2_with fail
            refine (hO.out _ hz.out).mono ?_; rintro e w1 ⟨rfl, rfl⟩
            go_wp2_with fail
            go_step3
            go_wp2_with fail
            go_loopw [30] (fun _ W => W = w.alloc (.cells #[.int .u64 gw, .string gt] 53)) (fun _ _ => 0)
            case atStart => exact rfl
            subst hrel
            go_wp2_with fail
            go_quiet (fail)
            go_wp2_with fail
            go_quiet (fail)
            go_wp2_with fail
            rw [Exit.noGoto_normal]
            refine gen_world (α := fun W' => bodyPost _ _ _ _ _ W') (fun W' => Blk W' b 195 #[.int .i64 a, .int .i64 p, .int .i64 sh, .int .i64 q, .int .i64 t, .int .u64 z, .string key, .int .u64 sum, .int .i64 (i + 1), .int .u64 0, .int .i64 0, .int .i64 0, .bool true] ∧ Chg (fun k => k = b) w W') ⟨?_, ?_⟩ ?_
            · refine Blk.eq_cs (cs := (((#[.int .i64 a, .int .i64 p, .int .i64 sh, .int .i64 q, .int .i64 t, .int .u64 z, .string key, .int .u64 sum, .int .i64 i, .int .u64 block, .int .i64 0, .int .i64 0, .bool true] : Array Value).setIfInBounds 9 (.int .u64 0)).setIfInBounds 8 (.int .i64 (i + 1)))) ?_ rfl
              have hB := hB.out
              (repeat first | with_reducible exact hB | with_reducible refine Blk.drewN ?_ _ | with_reducible refine Blk.drew ?_ | with_reducible refine Blk.alloc ?_ _ | with_reducible refine Blk.set_ ?_ _ _ | refine Blk.far ?_ (by simp; omega) _)
            · have hC := Chg.refl (fun k => k = b) w
              repeat first | with_reducible exact hC | with_reducible refine Chg.drew ?_ | with_reducible refine Chg.drewN ?_ _ | with_reducible refine Chg.alloc ?_ _ | refine Chg.setCell ?_ (by left; rfl) _
            rintro W' ⟨g1, g2⟩
            exact bodyPost_end (v := .tuple #[]) (results_none (by kernel_rfl) _ _ _) rfl ⟨rfl, ⟨g1, fun _ => hR.out, fun _ => ⟨by show 0 ≤ i + 1; omega, by show i + 1 ≤ sh; omega, fun _ => by show i + 1 < sh; have := hie2.out; omega⟩, hsum, by show (0 : Int) ≤ 0 ∧ (0 : Int) ≤ 18446744073709551615; decide, by show (0 : Int) ≤ 0 ∧ (0 : Int) ≤ 3; decide, fun _ => rfl, hkey⟩, g2⟩
end Go.Proofs.Ytfelkkbgbgnpaaa

/-
  The routine that looks for a key's shelf (layer 23): how it is made; as a routine. No condition.
-/
namespace Go.Proofs.Ytfelkkbgbgnpaaa
set_option linter.unusedVariables false
open Go.ChangeShapes Go.WideShapes Go.ChangeAt Go.RowKit
open Go.ChangeMaps (setBlock)

def newFind (c : PCfg) (key : ByteArray) : PFind := ⟨c, key, sumP c.seed key, 0, 0, 0, 0, c.right⟩
set_option maxRecDepth 100000 in
set_option maxHeartbeats 8000000 in
theorem findNew_any (c : PCfg) (key : ByteArray) (hkey : key.size ≤ 9223372036854775807) (w : World) : Calls Try.prog 76 #[c.val, .string key] w fun e w' => ∃ b, e = .returned (.pointer (some ⟨b, 0, none⟩)) ∧ FindIn w' b (newFind c key) ∧ w.heap.size ≤ b ∧ Below w.heap.size w w' := by
  have hR := fun W => right_cfg c W
  have hSm := fun W => sum_any c.seed key hkey W
  have hso := sumP_ok c.seed key
  have fin : ∀ (W : World) (b : Nat), Blk W b 195 #[.int .i64 c.cap, .int .i64 c.pins, .int .i64 c.shelves, .int .i64 c.queue, .int .i64 c.watchers, .int .u64 c.seed, .string key, .int .u64 (sumP c.seed key), .int .i64 0, .int .u64 0, .int .i64 0, .int .i64 0, .bool c.right] → FindIn W b (newFind c key) := fun W b h =>
    ⟨h, fun hm => (PCfg.right_iff c).1 hm, fun hm => by have := ((PCfg.right_iff c).1 hm).shelves; exact ⟨Int.le_refl _, by show 0 ≤ c.shelves; omega, fun _ => by show 0 < c.shelves; omega⟩, hso, by show (0 : Int) ≤ 0 ∧ (0 : Int) ≤ 18446744073709551615; decide, by show (0 : Int) ≤ 0 ∧ (0 : Int) ≤ 3; decide, fun _ => rfl, hkey⟩
  generalize newFind c key = N at *
  generalize sumP c.seed key = sm at *
  generalize c.right = rt at *
  obtain ⟨a, p, s, q, t, z⟩ := c
  rw [show PCfg.val ⟨a, p, s, q, t, z⟩ = .agg #[.int .i64 a, .int .i64 p, .int .i64 s, .int .i64 q, .int .i64 t, .int .u64 z] from rfl] at *
  simp only at fin hSm
  have B1 := Blk.new w 24 #[.int .i64 a, .int .i64 p, .int .i64 s, .int .i64 q, .int .i64 t, .int .u64 z]
  have hz : Below w.heap.size w (w.alloc (.cells #[.int .i64 a, .int .i64 p, .int .i64 s, .int .i64 q, .int .i64 t, .int .u64 z] 24)) := (Below.refl _ _).alloc (Nat.le_refl _) _
  replace B1 := Lib.hid B1
  replace hz := Lib.hid hz
  replace hR := Lib.hid hR
  replace hSm := Lib.hid hSm
  replace fin := Lib.hid fin
  replace hso := Lib.hid hso
  go_enter Try.func76, Try.ntmps76
  go_wp2_with fail
  go_region_with (first | (go_at_call 130; refine (hSm.out _).mono ?_; rintro e w1 ⟨rfl, rfl⟩) | (go_at_call 21; refine (hR.out _).mono ?_; rintro e w2 ⟨rfl, hb⟩; have B2 : Blk w2 w.heap.size 24 #[.int .i64 a, .int .i64 p, .int .i64 s, .int .i64 q, .int .i64 t, .int .u64 z] := (by first | exact (B1.out.drewN _).below hb (B1.out.drewN _).lt | exact (B1.out.drew).below hb B1.out.drew.lt | exact B1.out.below hb B1.out.lt); have d0 := B2.cell 0; have d1 := B2.cell 1; have d2 := B2.cell 2; have d3 := B2.cell 3; have d4 := B2.cell 4; have d5 := B2.cell 5; have hb' : Below w.heap.size w w2 := Below.next_ (by first | exact hz.out | exact hz.out.drew | exact below_drewN hz.out _ | exact (below_drewN hz.out _).drew) hb; replace B2 := Lib.hid B2; replace hb' := Lib.hid hb'; clear hb))
  all_goals
    go_wp2
    go_ret
    refine ⟨w2.heap.size, by simp [Act.put], fin.out _ _ (Blk.new w2 _ _), ?_, ?_⟩
    · have := hb'.out.size; omega
    · exact hb'.out.alloc hb'.out.size _
/-- A routine, where it lies. -/
def FindR (w : World) (Q : Nat → Prop) (b : Nat) (s : PFind) : Prop := In Q w ∧ Q b ∧ FindIn w b s
theorem findR_fresh {w : World} {b : Nat} {s : PFind} (h : FindIn w b s) : FindR w (fun k => k = b) b s := ⟨fun k hk => by rw [hk]; exact h.blk.lt, rfl, h⟩
theorem findAct_ok {w : World} {b : Nat} {s : PFind} (h : FindIn w b s) : (s.act).1.Ok := by
  have k0 : (-9223372036854775808 : Int) ≤ 0 ∧ (0 : Int) ≤ 9223372036854775807 := by decide
  have k1 : (-9223372036854775808 : Int) ≤ 1 ∧ (1 : Int) ≤ 9223372036854775807 := by decide
  have k6 : (-9223372036854775808 : Int) ≤ 6 ∧ (6 : Int) ≤ 9223372036854775807 := by decide
  have z : (0 : Int) ≤ 0 ∧ (0 : Int) ≤ 18446744073709551615 := by decide
  have z1 : (0 : Int) ≤ 1 ∧ (1 : Int) ≤ 18446744073709551615 := by decide
  have hE : ByteArray.empty.size ≤ 9223372036854775807 := by decide
  have hI : s.idle = (!s.made || s.kind != 0) := rfl
  unfold PFind.act
  cases hid : s.idle with
  | true => exact ⟨k0, z, k0, z, z, hE⟩
  | false =>
    have hm : s.made = true := by
      rw [hid] at hI
      cases hm : s.made with
      | false => rw [hm] at hI; cases hI
      | true => rfl
    have hR := h.right hm
    have h1 := hR.pins
    have h2 := hR.cap
    have h3 := hR.shelves
    have h4 := placeP_ok s.sum s.cfg.shelves s.i h3.1
    simp only [Bool.false_eq_true, if_false]
    split
    · exact ⟨k6, h.block, k0, z, z, hE⟩
    · refine ⟨k1, z1, ?_, z, z, hE⟩
      show -9223372036854775808 ≤ 3 + s.cfg.pins + s.cfg.cap + 2 * s.place ∧ 3 + s.cfg.pins + s.cfg.cap + 2 * s.place ≤ 9223372036854775807
      have h5 : 0 ≤ s.place ∧ s.place < s.cfg.shelves := h4
      omega
def findRout : Rout PFind where
  T := 122
  fAct := 62
  fTake := 71
  mAct := fun _ _ => by kernel_rfl
  mTake := fun _ _ => by kernel_rfl
  nAct := fun _ _ => by kernel_rfl
  nTake := fun _ _ => by kernel_rfl
  eAct := fun _ _ => by kernel_rfl
  eTake := fun _ _ => by kernel_rfl
  R := FindR
  own := fun h => h.1
  hG := fun h => h.2.1
  keep := fun ⟨h1, h2, h3⟩ hs hk => ⟨h1.mono hs, h2, h3.keep (hk _ h2)⟩
  act := PFind.act
  take := PFind.take
  okA := fun h => findAct_ok h.2.2
  cAct := fun ⟨_, _, h⟩ => findAct_any h
  cTake := fun {w G b s} g ⟨h1, h2, h3⟩ hg _ => (findTake_any h3 g hg).mono fun e w' ⟨he, hv, hc⟩ => ⟨he, ⟨h1.nw hc.size, .inl h2, hv⟩, hc.mono fun i hi => by rw [hi]; exact h2⟩
end Go.Proofs.Ytfelkkbgbgnpaaa
