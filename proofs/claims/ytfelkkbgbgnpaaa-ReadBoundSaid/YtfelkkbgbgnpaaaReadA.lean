import Derived.Test.YtfelkkbgbgnpaaaPinR
import Derived.Test.YtfelkkbgbgnpaaaFindN
import Derived.Test.YtfelkkbgbgnpaaaChainP
import Derived.Test.YtfelkkbgbgnpaaaPinG
import Derived.Test.YtfelkkbgbgnpaaaRAt
/-
  The routine that reads a key (layer 26): what it is. No condition.
-/
namespace Go.Proofs.Ytfelkkbgbgnpaaa
set_option linter.unusedVariables false
open Go.ChangeShapes Go.WideShapes Go.ChangeAt Go.RowKit
open Go.ChangeMaps (setBlock)

structure PRead where
  cfg : PCfg
  key : ByteArray
  part : Int
  acts : Int
  pin : PPin
  pp : Int
  pe : Int
  pt : Bool
  find : PFind
  chain : PChain
  code : Int
  took : Bool
  value : ByteArray
  mark : Int
def PRead.cells (s : PRead) (pv fv cv : Value) : Array Value := #[.int .i64 s.cfg.cap, .int .i64 s.cfg.pins, .int .i64 s.cfg.shelves, .int .i64 s.cfg.queue, .int .i64 s.cfg.watchers, .int .u64 s.cfg.seed, .string s.key, .int .i64 s.part, .int .i64 s.acts, pv, .int .i64 s.pp, .int .u64 s.pe, .bool s.pt, fv, cv, .int .i64 s.code, .int .i64 0, .int .i64 0, .bool s.took, .string s.value, .slice none 0 0, .int .i64 0, .slice none 0 0, .int .i64 s.mark, .int .u64 0]
/-- Behind pinning. -/
def PRead.settle1 (s : PRead) : PRead :=
  if s.pin.part = 5 then
    (if s.pin.taken then { s with code := 11, part := 5 } else { s with pp := s.pin.pin, pe := s.pin.epoch, pt := s.pin.taken, mark := s.acts, part := 2, find := newFind s.cfg s.key })
  else s
/-- Behind looking for the key. -/
def PRead.settle2 (s : PRead) : PRead :=
  if s.find.kind = 0 then s
  else if s.find.kind = 1 then { s with part := 3, chain := newChain (3 + s.cfg.pins + s.cfg.cap + 2 * s.find.shelf + 1) s.pe }
  else { s with part := 4 }
/-- Behind the chain. -/
def PRead.settle3 (s : PRead) : PRead := if s.chain.part = 6 then { s with code := 0, took := s.chain.has, value := s.chain.text, part := 4 } else s
/-- What it does next. -/
def PRead.act (s : PRead) : PAct × Bool :=
  if s.part = 1 then s.pin.act
  else if s.part = 2 then s.find.act
  else if s.part = 3 then s.chain.act
  else if s.part = 4 then (⟨2, 1, 3 + s.pp, 0, 0, ByteArray.empty⟩, true)
  else (noAct, false)
/-- What it takes. -/
def PRead.take (s : PRead) (g : PGot) : PRead :=
  if s.part = 1 then PRead.settle1 { s with acts := IntKind.i64.wrap (s.acts + 1), pin := s.pin.take g }
  else if s.part = 2 then PRead.settle2 { s with acts := IntKind.i64.wrap (s.acts + 1), find := s.find.take g }
  else if s.part = 3 then PRead.settle3 { s with acts := IntKind.i64.wrap (s.acts + 1), chain := s.chain.take g }
  else if s.part = 4 then { s with acts := IntKind.i64.wrap (s.acts + 1), part := 5 }
  else s
def PRead.done (s : PRead) : Bool := decide (s.part = 5)
end Go.Proofs.Ytfelkkbgbgnpaaa

/-
  The routine that reads a key (layer 26): its next act, part by part. No condition.
-/
namespace Go.Proofs.Ytfelkkbgbgnpaaa
set_option linter.unusedVariables false
open Go.ChangeShapes Go.WideShapes Go.ChangeAt Go.RowKit
open Go.ChangeMaps (setBlock)

set_option maxRecDepth 100000 in
set_option maxHeartbeats 2000000 in
theorem readAct_nil (w : World) : Calls Try.prog 14 #[.pointer none] w fun e w' => e = .returned (.tuple #[.agg #[.int .i64 0, .int .u64 0, .int .i64 0, .int .u64 0, .int .u64 0, .string ⟨#[]⟩], .bool false]) ∧ Below w.heap.size w w' := by
  go_enter Try.func14, Try.ntmps14
  go_wp2_with fail
  refine bodyPost_ret (v := .tuple #[.agg #[.int .i64 0, .int .u64 0, .int .i64 0, .int .u64 0, .int .u64 0, .string ⟨#[]⟩], .bool false]) (by simp [results, Try.results14, go_sem]) rfl ⟨rfl, ?_⟩
  (repeat first | exact Below.refl _ _ | assumption | refine Below.drew ?_ | refine below_drewN ?_ _ | refine Below.more_ ?_ _ | refine Below.setCell ?_ (by first | exact Nat.le_refl _ | (simp; done) | (simp; omega)) _)
set_option maxRecDepth 100000 in
set_option maxHeartbeats 2000000 in
theorem readAct0_any {w : World} {b : Nat} {c : PCfg} {key : ByteArray} {acts pp pe code mark : Int} {pt took : Bool} {value : ByteArray} {pv fv cv : Value} (hBc : Blk w b 125 #[.int .i64 c.cap, .int .i64 c.pins, .int .i64 c.shelves, .int .i64 c.queue, .int .i64 c.watchers, .int .u64 c.seed, .string key, .int .i64 0, .int .i64 acts, pv, .int .i64 pp, .int .u64 pe, .bool pt, fv, cv, .int .i64 code, .int .i64 0, .int .i64 0, .bool took, .string value, .slice none 0 0, .int .i64 0, .slice none 0 0, .int .i64 mark, .int .u64 0]) :
    Calls Try.prog 14 #[.pointer (some ⟨b, 0, none⟩)] w fun e w' => e = .returned (.tuple #[.agg #[.int .i64 0, .int .u64 0, .int .i64 0, .int .u64 0, .int .u64 0, .string ⟨#[]⟩], .bool false]) ∧ Below w.heap.size w w' := by
  have c7 := hBc.cell 7
  have hlt := hBc.lt
  replace hBc := Lib.hid hBc
  go_enter Try.func14, Try.ntmps14
  go_wp2_with fail
  refine bodyPost_ret (v := .tuple #[.agg #[.int .i64 0, .int .u64 0, .int .i64 0, .int .u64 0, .int .u64 0, .string ⟨#[]⟩], .bool false]) (by simp [results, Try.results14, go_sem]) rfl ⟨rfl, ?_⟩
  (repeat first | exact Below.refl _ _ | assumption | refine Below.drew ?_ | refine below_drewN ?_ _ | refine Below.more_ ?_ _ | refine Below.setCell ?_ (by first | exact Nat.le_refl _ | (simp; done) | (simp; omega)) _)
set_option maxRecDepth 100000 in
set_option maxHeartbeats 2000000 in
theorem readAct5_any {w : World} {b : Nat} {c : PCfg} {key : ByteArray} {acts pp pe code mark : Int} {pt took : Bool} {value : ByteArray} {pv fv cv : Value} (hBc : Blk w b 125 #[.int .i64 c.cap, .int .i64 c.pins, .int .i64 c.shelves, .int .i64 c.queue, .int .i64 c.watchers, .int .u64 c.seed, .string key, .int .i64 5, .int .i64 acts, pv, .int .i64 pp, .int .u64 pe, .bool pt, fv, cv, .int .i64 code, .int .i64 0, .int .i64 0, .bool took, .string value, .slice none 0 0, .int .i64 0, .slice none 0 0, .int .i64 mark, .int .u64 0]) :
    Calls Try.prog 14 #[.pointer (some ⟨b, 0, none⟩)] w fun e w' => e = .returned (.tuple #[.agg #[.int .i64 0, .int .u64 0, .int .i64 0, .int .u64 0, .int .u64 0, .string ⟨#[]⟩], .bool false]) ∧ Below w.heap.size w w' := by
  have c7 := hBc.cell 7
  have hlt := hBc.lt
  replace hBc := Lib.hid hBc
  go_enter Try.func14, Try.ntmps14
  go_wp2_with fail
  refine bodyPost_ret (v := .tuple #[.agg #[.int .i64 0, .int .u64 0, .int .i64 0, .int .u64 0, .int .u64 0, .string ⟨#[]⟩], .bool false]) (by simp [results, Try.results14, go_sem]) rfl ⟨rfl, ?_⟩
  (repeat first | exact Below.refl _ _ | assumption | refine Below.drew ?_ | refine below_drewN ?_ _ | refine Below.more_ ?_ _ | refine Below.setCell ?_ (by first | exact Nat.le_refl _ | (simp; done) | (simp; omega)) _)
set_option maxRecDepth 100000 in
set_option maxHeartbeats 2000000 in
theorem readAct1_any {w : World} {b : Nat} {c : PCfg} {key : ByteArray} {acts pp pe code mark : Int} {pt took : Bool} {value : ByteArray} {fv cv : Value} {rb : Nat} {xk xb xc xo xn : Int} {xt : ByteArray} {mo : Bool} (hBc : Blk w b 125 #[.int .i64 c.cap, .int .i64 c.pins, .int .i64 c.shelves, .int .i64 c.queue, .int .i64 c.watchers, .int .u64 c.seed, .string key, .int .i64 1, .int .i64 acts, .pointer (some ⟨rb, 0, none⟩), .int .i64 pp, .int .u64 pe, .bool pt, fv, cv, .int .i64 code, .int .i64 0, .int .i64 0, .bool took, .string value, .slice none 0 0, .int .i64 0, .slice none 0 0, .int .i64 mark, .int .u64 0])
    (hA : Calls Try.prog 61 #[.pointer (some ⟨rb, 0, none⟩)] (w.alloc (.cells #[.int .i64 0, .int .u64 0, .int .i64 0, .int .u64 0, .int .u64 0, .string ⟨#[]⟩] 31)) fun e w' => e = .returned (.tuple #[.agg #[.int .i64 xk, .int .u64 xb, .int .i64 xc, .int .u64 xo, .int .u64 xn, .string xt], .bool mo]) ∧ Below (w.alloc (.cells #[.int .i64 0, .int .u64 0, .int .i64 0, .int .u64 0, .int .u64 0, .string ⟨#[]⟩] 31)).heap.size (w.alloc (.cells #[.int .i64 0, .int .u64 0, .int .i64 0, .int .u64 0, .int .u64 0, .string ⟨#[]⟩] 31)) w') :
    Calls Try.prog 14 #[.pointer (some ⟨b, 0, none⟩)] w fun e w' => e = .returned (.tuple #[.agg #[.int .i64 xk, .int .u64 xb, .int .i64 xc, .int .u64 xo, .int .u64 xn, .string xt], .bool mo]) ∧ Below w.heap.size w w' := by
  have hz : Below w.heap.size w (w.alloc (.cells #[.int .i64 0, .int .u64 0, .int .i64 0, .int .u64 0, .int .u64 0, .string ⟨#[]⟩] 31)) := (Below.refl _ _).alloc (Nat.le_refl _) _
  have B0 := Blk.new w 31 #[.int .i64 0, .int .u64 0, .int .i64 0, .int .u64 0, .int .u64 0, .string ⟨#[]⟩]
  have c7 := hBc.cell 7
  have c9 := hBc.cell 9
  have hlt := hBc.lt
  replace hBc := Lib.hid hBc
  replace hz := Lib.hid hz
  replace B0 := Lib.hid B0
  replace hA := Lib.hid hA
  go_enter Try.func14, Try.ntmps14
  go_wp2_with fail
  refine (hA.out).mono ?_; rintro e w1 ⟨rfl, hb⟩
  have B1 := B0.out.below hb B0.out.lt
  have hb1 := nx hz.out (Nat.le_refl _) hb
  clear hb c7 c9
  have b1c0 := B1.cell 0
  have b1c1 := B1.cell 1
  have b1c2 := B1.cell 2
  have b1c3 := B1.cell 3
  have b1c4 := B1.cell 4
  have b1c5 := B1.cell 5
  have b1f0 := B1.frozen 0
  have b1f1 := B1.frozen 1
  have b1f2 := B1.frozen 2
  have b1f3 := B1.frozen 3
  have b1f4 := B1.frozen 4
  have b1f5 := B1.frozen 5
  replace B1 := Lib.hid B1
  replace hb1 := Lib.hid hb1
  go_wp2_with fail
  refine gen_world (α := fun W' => bodyPost _ _ _ _ _ W') (fun W' => Blk W' w.heap.size 31 #[.int .i64 xk, .int .u64 xb, .int .i64 xc, .int .u64 xo, .int .u64 xn, .string xt] ∧ Below w.heap.size w W') ⟨Blk.eq_cs ((((((B1.out.set_ 0 _).set_ 1 _).set_ 2 _).set_ 3 _).set_ 4 _).set_ 5 _) rfl, ?_⟩ ?_
  · repeat (refine Below.setCell ?_ (by exact Nat.le_refl _) _)
    exact hb1.out
  rintro W' ⟨g1, g2⟩
  have e0 := g1.cell 0
  have e1 := g1.cell 1
  have e2 := g1.cell 2
  have e3 := g1.cell 3
  have e4 := g1.cell 4
  have e5 := g1.cell 5
  exact bodyPost_ret (v := .tuple #[.agg #[.int .i64 xk, .int .u64 xb, .int .i64 xc, .int .u64 xo, .int .u64 xn, .string xt], .bool mo]) (by simp [results, Try.results14, go_sem, e0, e1, e2, e3, e4, e5]) rfl ⟨rfl, g2⟩
set_option maxRecDepth 100000 in
set_option maxHeartbeats 2000000 in
theorem readAct2_any {w : World} {b : Nat} {c : PCfg} {key : ByteArray} {acts pp pe code mark : Int} {pt took : Bool} {value : ByteArray} {pv cv : Value} {rb : Nat} {xk xb xc xo xn : Int} {xt : ByteArray} {mo : Bool} (hBc : Blk w b 125 #[.int .i64 c.cap, .int .i64 c.pins, .int .i64 c.shelves, .int .i64 c.queue, .int .i64 c.watchers, .int .u64 c.seed, .string key, .int .i64 2, .int .i64 acts, pv, .int .i64 pp, .int .u64 pe, .bool pt, .pointer (some ⟨rb, 0, none⟩), cv, .int .i64 code, .int .i64 0, .int .i64 0, .bool took, .string value, .slice none 0 0, .int .i64 0, .slice none 0 0, .int .i64 mark, .int .u64 0])
    (hA : Calls Try.prog 62 #[.pointer (some ⟨rb, 0, none⟩)] (w.alloc (.cells #[.int .i64 0, .int .u64 0, .int .i64 0, .int .u64 0, .int .u64 0, .string ⟨#[]⟩] 31)) fun e w' => e = .returned (.tuple #[.agg #[.int .i64 xk, .int .u64 xb, .int .i64 xc, .int .u64 xo, .int .u64 xn, .string xt], .bool mo]) ∧ Below (w.alloc (.cells #[.int .i64 0, .int .u64 0, .int .i64 0, .int .u64 0, .int .u64 0, .string ⟨#[]⟩] 31)).heap.size (w.alloc (.cells #[.int .i64 0, .int .u64 0, .int .i64 0, .int .u64 0, .int .u64 0, .string ⟨#[]⟩] 31)) w') :
    Calls Try.prog 14 #[.pointer (some ⟨b, 0, none⟩)] w fun e w' => e = .returned (.tuple #[.agg #[.int .i64 xk, .int .u64 xb, .int .i64 xc, .int .u64 xo, .int .u64 xn, .string xt], .bool mo]) ∧ Below w.heap.size w w' := by
  have hz : Below w.heap.size w (w.alloc (.cells #[.int .i64 0, .int .u64 0, .int .i64 0, .int .u64 0, .int .u64 0, .string ⟨#[]⟩] 31)) := (Below.refl _ _).alloc (Nat.le_refl _) _
  have B0 := Blk.new w 31 #[.int .i64 0, .int .u64 0, .int .i64 0, .int .u64 0, .int .u64 0, .string ⟨#[]⟩]
  have c7 := hBc.cell 7
  have c13 := hBc.cell 13
  have hlt := hBc.lt
  replace hBc := Lib.hid hBc
  replace hz := Lib.hid hz
  replace B0 := Lib.hid B0
  replace hA := Lib.hid hA
  go_enter Try.func14, Try.ntmps14
  go_wp2_with fail
  refine (hA.out).mono ?_; rintro e w1 ⟨rfl, hb⟩
  have B1 := B0.out.below hb B0.out.lt
  have hb1 := nx hz.out (Nat.le_refl _) hb
  clear hb c7 c13
  have b1c0 := B1.cell 0
  have b1c1 := B1.cell 1
  have b1c2 := B1.cell 2
  have b1c3 := B1.cell 3
  have b1c4 := B1.cell 4
  have b1c5 := B1.cell 5
  have b1f0 := B1.frozen 0
  have b1f1 := B1.frozen 1
  have b1f2 := B1.frozen 2
  have b1f3 := B1.frozen 3
  have b1f4 := B1.frozen 4
  have b1f5 := B1.frozen 5
  replace B1 := Lib.hid B1
  replace hb1 := Lib.hid hb1
  go_wp2_with fail
  refine gen_world (α := fun W' => bodyPost _ _ _ _ _ W') (fun W' => Blk W' w.heap.size 31 #[.int .i64 xk, .int .u64 xb, .int .i64 xc, .int .u64 xo, .int .u64 xn, .string xt] ∧ Below w.heap.size w W') ⟨Blk.eq_cs ((((((B1.out.set_ 0 _).set_ 1 _).set_ 2 _).set_ 3 _).set_ 4 _).set_ 5 _) rfl, ?_⟩ ?_
  · repeat (refine Below.setCell ?_ (by exact Nat.le_refl _) _)
    exact hb1.out
  rintro W' ⟨g1, g2⟩
  have e0 := g1.cell 0
  have e1 := g1.cell 1
  have e2 := g1.cell 2
  have e3 := g1.cell 3
  have e4 := g1.cell 4
  have e5 := g1.cell 5
  exact bodyPost_ret (v := .tuple #[.agg #[.int .i64 xk, .int .u64 xb, .int .i64 xc, .int .u64 xo, .int .u64 xn, .string xt], .bool mo]) (by simp [results, Try.results14, go_sem, e0, e1, e2, e3, e4, e5]) rfl ⟨rfl, g2⟩
set_option maxRecDepth 100000 in
set_option maxHeartbeats 2000000 in
theorem readAct3_any {w : World} {b : Nat} {c : PCfg} {key : ByteArray} {acts pp pe code mark : Int} {pt took : Bool} {value : ByteArray} {pv fv : Value} {rb : Nat} {xk xb xc xo xn : Int} {xt : ByteArray} {mo : Bool} (hBc : Blk w b 125 #[.int .i64 c.cap, .int .i64 c.pins, .int .i64 c.shelves, .int .i64 c.queue, .int .i64 c.watchers, .int .u64 c.seed, .string key, .int .i64 3, .int .i64 acts, pv, .int .i64 pp, .int .u64 pe, .bool pt, fv, .pointer (some ⟨rb, 0, none⟩), .int .i64 code, .int .i64 0, .int .i64 0, .bool took, .string value, .slice none 0 0, .int .i64 0, .slice none 0 0, .int .i64 mark, .int .u64 0])
    (hA : Calls Try.prog 63 #[.pointer (some ⟨rb, 0, none⟩)] (w.alloc (.cells #[.int .i64 0, .int .u64 0, .int .i64 0, .int .u64 0, .int .u64 0, .string ⟨#[]⟩] 31)) fun e w' => e = .returned (.tuple #[.agg #[.int .i64 xk, .int .u64 xb, .int .i64 xc, .int .u64 xo, .int .u64 xn, .string xt], .bool mo]) ∧ Below (w.alloc (.cells #[.int .i64 0, .int .u64 0, .int .i64 0, .int .u64 0, .int .u64 0, .string ⟨#[]⟩] 31)).heap.size (w.alloc (.cells #[.int .i64 0, .int .u64 0, .int .i64 0, .int .u64 0, .int .u64 0, .string ⟨#[]⟩] 31)) w') :
    Calls Try.prog 14 #[.pointer (some ⟨b, 0, none⟩)] w fun e w' => e = .returned (.tuple #[.agg #[.int .i64 xk, .int .u64 xb, .int .i64 xc, .int .u64 xo, .int .u64 xn, .string xt], .bool mo]) ∧ Below w.heap.size w w' := by
  have hz : Below w.heap.size w (w.alloc (.cells #[.int .i64 0, .int .u64 0, .int .i64 0, .int .u64 0, .int .u64 0, .string ⟨#[]⟩] 31)) := (Below.refl _ _).alloc (Nat.le_refl _) _
  have B0 := Blk.new w 31 #[.int .i64 0, .int .u64 0, .int .i64 0, .int .u64 0, .int .u64 0, .string ⟨#[]⟩]
  have c7 := hBc.cell 7
  have c14 := hBc.cell 14
  have hlt := hBc.lt
  replace hBc := Lib.hid hBc
  replace hz := Lib.hid hz
  replace B0 := Lib.hid B0
  replace hA := Lib.hid hA
  go_enter Try.func14, Try.ntmps14
  go_wp2_with fail
  refine (hA.out).mono ?_; rintro e w1 ⟨rfl, hb⟩
  have B1 := B0.out.below hb B0.out.lt
  have hb1 := nx hz.out (Nat.le_refl _) hb
  clear hb c7 c14
  have b1c0 := B1.cell 0
  have b1c1 := B1.cell 1
  have b1c2 := B1.cell 2
  have b1c3 := B1.cell 3
  have b1c4 := B1.cell 4
  have b1c5 := B1.cell 5
  have b1f0 := B1.frozen 0
  have b1f1 := B1.frozen 1
  have b1f2 := B1.frozen 2
  have b1f3 := B1.frozen 3
  have b1f4 := B1.frozen 4
  have b1f5 := B1.frozen 5
  replace B1 := Lib.hid B1
  replace hb1 := Lib.hid hb1
  go_wp2_with fail
  refine gen_world (α := fun W' => bodyPost _ _ _ _ _ W') (fun W' => Blk W' w.heap.size 31 #[.int .i64 xk, .int .u64 xb, .int .i64 xc, .int .u64 xo, .int .u64 xn, .string xt] ∧ Below w.heap.size w W') ⟨Blk.eq_cs ((((((B1.out.set_ 0 _).set_ 1 _).set_ 2 _).set_ 3 _).set_ 4 _).set_ 5 _) rfl, ?_⟩ ?_
  · repeat (refine Below.setCell ?_ (by exact Nat.le_refl _) _)
    exact hb1.out
  rintro W' ⟨g1, g2⟩
  have e0 := g1.cell 0
  have e1 := g1.cell 1
  have e2 := g1.cell 2
  have e3 := g1.cell 3
  have e4 := g1.cell 4
  have e5 := g1.cell 5
  exact bodyPost_ret (v := .tuple #[.agg #[.int .i64 xk, .int .u64 xb, .int .i64 xc, .int .u64 xo, .int .u64 xn, .string xt], .bool mo]) (by simp [results, Try.results14, go_sem, e0, e1, e2, e3, e4, e5]) rfl ⟨rfl, g2⟩
set_option maxRecDepth 100000 in
set_option maxHeartbeats 2000000 in
theorem readAct4_any {w : World} {b : Nat} {c : PCfg} {key : ByteArray} {acts pp pe code mark : Int} {pt took : Bool} {value : ByteArray} {pv fv cv : Value} (hBc : Blk w b 125 #[.int .i64 c.cap, .int .i64 c.pins, .int .i64 c.shelves, .int .i64 c.queue, .int .i64 c.watchers, .int .u64 c.seed, .string key, .int .i64 4, .int .i64 acts, pv, .int .i64 pp, .int .u64 pe, .bool pt, fv, cv, .int .i64 code, .int .i64 0, .int .i64 0, .bool took, .string value, .slice none 0 0, .int .i64 0, .slice none 0 0, .int .i64 mark, .int .u64 0]) (hc : c.Right) (hpp : 0 ≤ pp ∧ pp < c.pins) :
    Calls Try.prog 14 #[.pointer (some ⟨b, 0, none⟩)] w fun e w' => e = .returned (.tuple #[.agg #[.int .i64 2, .int .u64 1, .int .i64 (3 + pp), .int .u64 0, .int .u64 0, .string ⟨#[]⟩], .bool true]) ∧ Below w.heap.size w w' := by
  have hF := fun W => free_any c hc pp hpp W
  rw [show c.val = .agg #[.int .i64 c.cap, .int .i64 c.pins, .int .i64 c.shelves, .int .i64 c.queue, .int .i64 c.watchers, .int .u64 c.seed] from rfl] at hF
  have c7 := hBc.cell 7
  have hlt := hBc.lt
  obtain ⟨W, hW⟩ : ∃ W, W = w.alloc (.cells #[.int .i64 0, .int .u64 0, .int .i64 0, .int .u64 0, .int .u64 0, .string ⟨#[]⟩] 31) := ⟨_, rfl⟩
  have hBw := hBc.alloc (.cells #[.int .i64 0, .int .u64 0, .int .i64 0, .int .u64 0, .int .u64 0, .string ⟨#[]⟩] 31)
  have B0w := Blk.new w 31 #[.int .i64 0, .int .u64 0, .int .i64 0, .int .u64 0, .int .u64 0, .string ⟨#[]⟩]
  have hzw : Below w.heap.size w (w.alloc (.cells #[.int .i64 0, .int .u64 0, .int .i64 0, .int .u64 0, .int .u64 0, .string ⟨#[]⟩] 31)) := (Below.refl _ _).alloc (Nat.le_refl _) _
  rw [← hW] at hBw B0w hzw
  have v0 := hBw.cell 0
  have v1 := hBw.cell 1
  have v2 := hBw.cell 2
  have v3 := hBw.cell 3
  have v4 := hBw.cell 4
  have v5 := hBw.cell 5
  have v10 := hBw.cell 10
  clear hBw hc hpp
  replace hBc := Lib.hid hBc
  replace hF := Lib.hid hF
  replace B0w := Lib.hid B0w
  replace hzw := Lib.hid hzw
  go_enter Try.func14, Try.ntmps14
  go_wp2_with fail
  rw [← hW]
  replace hW := Lib.hid hW
  clear c7
  go_region_with (go_at_call 64; refine (hF.out _).mono ?_; rintro e w1 ⟨rfl, hb⟩; have B1 := Blk.below (w := W.drew) B0w.out hb B0w.out.lt; have hb1 := nx (b := W.drew) hzw.out.drew (Nat.le_refl _) hb; clear hb; have b1c0 := B1.cell 0; have b1c1 := B1.cell 1; have b1c2 := B1.cell 2; have b1c3 := B1.cell 3; have b1c4 := B1.cell 4; have b1c5 := B1.cell 5; have b1f0 := B1.frozen 0; have b1f1 := B1.frozen 1; have b1f2 := B1.frozen 2; have b1f3 := B1.frozen 3; have b1f4 := B1.frozen 4; have b1f5 := B1.frozen 5; replace B1 := Lib.hid B1; replace hb1 := Lib.hid hb1)
  all_goals
    clear v0 v1 v2 v3 v4 v5 v10
    go_wp2_with fail
    refine gen_world (α := fun W' => bodyPost _ _ _ _ _ W') (fun W' => Blk W' w.heap.size 31 #[.int .i64 2, .int .u64 1, .int .i64 (3 + pp), .int .u64 0, .int .u64 0, .string ⟨#[]⟩] ∧ Below w.heap.size w W') ⟨Blk.eq_cs ((((((B1.out.set_ 0 _).set_ 1 _).set_ 2 _).set_ 3 _).set_ 4 _).set_ 5 _) rfl, ?_⟩ ?_
    · repeat (refine Below.setCell ?_ (by exact Nat.le_refl _) _)
      exact hb1.out
    rintro W' ⟨g1, g2⟩
    have e0 := g1.cell 0
    have e1 := g1.cell 1
    have e2 := g1.cell 2
    have e3 := g1.cell 3
    have e4 := g1.cell 4
    have e5 := g1.cell 5
    exact bodyPost_ret (v := .tuple #[.agg #[.int .i64 2, .int .u64 1, .int .i64 (3 + pp), .int .u64 0, .int .u64 0, .string ⟨#[]⟩], .bool true]) (by simp [results, Try.results14, go_sem, e0, e1, e2, e3, e4, e5]) rfl ⟨rfl, g2⟩
end Go.Proofs.Ytfelkkbgbgnpaaa
