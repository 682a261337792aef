import Derived.Test.YtmlnhjfdhjachaaGreatPinR
import Derived.Test.YtmlnhjfdhjachaaGreatFindN
import Derived.Test.YtmlnhjfdhjachaaGreatChainP
import Derived.Test.YtmlnhjfdhjachaaGreatPinG
import Derived.Test.YtmlnhjfdhjachaaGreatCrew
/-
  The routine that reads a key (layer 26): what it is. No condition.
-/
namespace Go.Proofs.YtmlnhjfdhjachaaGreat
set_option linter.unusedVariables false
open Go.ChangeShapes Go.WideShapes Go.ChangeAt Go.RowKit
open Go.ChangeMaps (setBlock)

structure PRead where
  cfg : PCfg
  key : ByteArray
  part : Int
  acts : Int
  pin : PPin
  pp : Int
  pe : Int
  pt : Bool
  find : PFind
  chain : PChain
  code : Int
  took : Bool
  value : ByteArray
  mark : Int
def PRead.cells (s : PRead) (pv fv cv : Value) : Array Value := #[.int .i64 s.cfg.cap, .int .i64 s.cfg.pins, .int .i64 s.cfg.shelves, .int .i64 s.cfg.queue, .int .i64 s.cfg.watchers, .int .u64 s.cfg.seed, .string s.key, .int .i64 s.part, .int .i64 s.acts, pv, .int .i64 s.pp, .int .u64 s.pe, .bool s.pt, fv, cv, .int .i64 s.code, .int .i64 0, .int .i64 0, .bool s.took, .string s.value, .slice none 0 0, .int .i64 0, .slice none 0 0, .int .i64 s.mark, .int .u64 0]
/-- Behind pinning. -/
def PRead.settle1 (s : PRead) : PRead :=
  if s.pin.part = 5 then
    (if s.pin.taken then { s with code := 11, part := 5 } else { s with pp := s.pin.pin, pe := s.pin.epoch, pt := s.pin.taken, mark := s.acts, part := 2, find := newFind s.cfg s.key })
  else s
/-- Behind looking for the key. -/
def PRead.settle2 (s : PRead) : PRead :=
  if s.find.kind = 0 then s
  else if s.find.kind = 1 then { s with part := 3, chain := newChain (3 + s.cfg.pins + s.cfg.cap + 2 * s.find.shelf + 1) s.pe }
  else { s with part := 4 }
/-- Behind the chain. -/
def PRead.settle3 (s : PRead) : PRead := if s.chain.part = 6 then { s with code := 0, took := s.chain.has, value := s.chain.text, part := 4 } else s
/-- What it does next. -/
def PRead.act (s : PRead) : PAct × Bool :=
  if s.part = 1 then s.pin.act
  else if s.part = 2 then s.find.act
  else if s.part = 3 then s.chain.act
  else if s.part = 4 then (⟨2, 1, 3 + s.pp, 0, 0, ByteArray.empty⟩, true)
  else (noAct, false)
/-- What it takes. -/
def PRead.take (s : PRead) (g : PGot) : PRead :=
  if s.part = 1 then PRead.settle1 { s with acts := IntKind.i64.wrap (s.acts + 1), pin := s.pin.take g }
  else if s.part = 2 then PRead.settle2 { s with acts := IntKind.i64.wrap (s.acts + 1), find := s.find.take g }
  else if s.part = 3 then PRead.settle3 { s with acts := IntKind.i64.wrap (s.acts + 1), chain := s.chain.take g }
  else if s.part = 4 then { s with acts := IntKind.i64.wrap (s.acts + 1), part := 5 }
  else s
def PRead.done (s : PRead) : Bool := decide (s.part = 5)
end Go.Proofs.YtmlnhjfdhjachaaGreat

/-
  The routine that reads a key (layer 26): its next act, part by part. No condition.
-/
namespace Go.Proofs.YtmlnhjfdhjachaaGreat
set_option linter.unusedVariables false
open Go.ChangeShapes Go.WideShapes Go.ChangeAt Go.RowKit
open Go.ChangeMaps (setBlock)

set_option maxRecDepth 100000 in
set_option maxHeartbeats 2000000 in
theorem readAct_nil (w : World) : Calls Tryz.prog 159 #[.pointer none] w fun e w' => e = .returned (.tuple #[.agg #[.int .i64 0, .int .u64 0, .int .i64 0, .int .u64 0, .int .u64 0, .string ⟨#[]⟩], .bool false]) ∧ Below w.heap.size w w' := by
  go_enter Tryz.func159, Tryz.ntmps159
  go_wp2_with fail
  refine bodyPost_ret (v := .tuple #[.agg #[.int .i64 0, .int .u64 0, .int .i64 0, .int .u64 0, .int .u64 0, .string ⟨#[]⟩], .bool false]) (by simp [results, Tryz.results159, go_sem]) rfl ⟨rfl, ?_⟩
  (repeat first | exact Below.refl _ _ | assumption | refine Below.drew ?_ | refine below_drewN ?_ _ | refine Below.more_ ?_ _ | refine Below.setCell ?_ (by first | exact Nat.le_refl _ | (simp; done) | (simp; omega)) _)
set_option maxRecDepth 100000 in
set_option maxHeartbeats 2000000 in
theorem readAct0_any {w : World} {b : Nat} {c : PCfg} {key : ByteArray} {acts pp pe code mark : Int} {pt took : Bool} {value : ByteArray} {pv fv cv : Value} (hBc : Blk w b 128 #[.int .i64 c.cap, .int .i64 c.pins, .int .i64 c.shelves, .int .i64 c.queue, .int .i64 c.watchers, .int .u64 c.seed, .string key, .int .i64 0, .int .i64 acts, pv, .int .i64 pp, .int .u64 pe, .bool pt, fv, cv, .int .i64 code, .int .i64 0, .int .i64 0, .bool took, .string value, .slice none 0 0, .int .i64 0, .slice none 0 0, .int .i64 mark, .int .u64 0]) :
    Calls Tryz.prog 159 #[.pointer (some ⟨b, 0, none⟩)] w fun e w' => e = .returned (.tuple #[.agg #[.int .i64 0, .int .u64 0, .int .i64 0, .int .u64 0, .int .u64 0, .string ⟨#[]⟩], .bool false]) ∧ Below w.heap.size w w' := by
  have c7 := hBc.cell 7
  have hlt := hBc.lt
  replace hBc := Lib.hid hBc
  go_enter Tryz.func159, Tryz.ntmps159
  go_wp2_with fail
  refine bodyPost_ret (v := .tuple #[.agg #[.int .i64 0, .int .u64 0, .int .i64 0, .int .u64 0, .int .u64 0, .string ⟨#[]⟩], .bool false]) (by simp [results, Tryz.results159, go_sem]) rfl ⟨rfl, ?_⟩
  (repeat first | exact Below.refl _ _ | assumption | refine Below.drew ?_ | refine below_drewN ?_ _ | refine Below.more_ ?_ _ | refine Below.setCell ?_ (by first | exact Nat.le_refl _ | (simp; done) | (simp; omega)) _)
set_option maxRecDepth 100000 in
set_option maxHeartbeats 2000000 in
theorem readAct5_any {w : World} {b : Nat} {c : PCfg} {key : ByteArray} {acts pp pe code mark : Int} {pt took : Bool} {value : ByteArray} {pv fv cv : Value} (hBc : Blk w b 128 #[.int .i64 c.cap, .int .i64 c.pins, .int .i64 c.shelves, .int .i64 c.queue, .int .i64 c.watchers, .int .u64 c.seed, .string key, .int .i64 5, .int .i64 acts, pv, .int .i64 pp, .int .u64 pe, .bool pt, fv, cv, .int .i64 code, .int .i64 0, .int .i64 0, .bool took, .string value, .slice none 0 0, .int .i64 0, .slice none 0 0, .int .i64 mark, .int .u64 0]) :
    Calls Tryz.prog 159 #[.pointer (some ⟨b, 0, none⟩)] w fun e w' => e = .returned (.tuple #[.agg #[.int .i64 0, .int .u64 0, .int .i64 0, .int .u64 0, .int .u64 0, .string ⟨#[]⟩], .bool false]) ∧ Below w.heap.size w w' := by
  have c7 := hBc.cell 7
  have hlt := hBc.lt
  replace hBc := Lib.hid hBc
  go_enter Tryz.func159, Tryz.ntmps159
  go_wp2_with fail
  refine bodyPost_ret (v := .tuple #[.agg #[.int .i64 0, .int .u64 0, .int .i64 0, .int .u64 0, .int .u64 0, .string ⟨#[]⟩], .bool false]) (by simp [results, Tryz.results159, go_sem]) rfl ⟨rfl, ?_⟩
  (repeat first | exact Below.refl _ _ | assumption | refine Below.drew ?_ | refine below_drewN ?_ _ | refine Below.more_ ?_ _ | refine Below.setCell ?_ (by first | exact Nat.le_refl _ | (simp; done) | (simp; omega)) _)
set_option maxRecDepth 100000 in
set_option maxHeartbeats 2000000 in
theorem readAct1_any {w : World} {b : Nat} {c : PCfg} {key : ByteArray} {acts pp pe code mark : Int} {pt took : Bool} {value : ByteArray} {fv cv : Value} {rb : Nat} {xk xb xc xo xn : Int} {xt : ByteArray} {mo : Bool} (hBc : Blk w b 128 #[.int .i64 c.cap, .int .i64 c.pins, .int .i64 c.shelves, .int .i64 c.queue, .int .i64 c.watchers, .int .u64 c.seed, .string key, .int .i64 1, .int .i64 acts, .pointer (some ⟨rb, 0, none⟩), .int .i64 pp, .int .u64 pe, .bool pt, fv, cv, .int .i64 code, .int .i64 0, .int .i64 0, .bool took, .string value, .slice none 0 0, .int .i64 0, .slice none 0 0, .int .i64 mark, .int .u64 0])
    (hA : Calls Tryz.prog 38 #[.pointer (some ⟨rb, 0, none⟩)] (w.alloc (.cells #[.int .i64 0, .int .u64 0, .int .i64 0, .int .u64 0, .int .u64 0, .string ⟨#[]⟩] 31)) fun e w' => e = .returned (.tuple #[.agg #[.int .i64 xk, .int .u64 xb, .int .i64 xc, .int .u64 xo, .int .u64 xn, .string xt], .bool mo]) ∧ Below (w.alloc (.cells #[.int .i64 0, .int .u64 0, .int .i64 0, .int .u64 0, .int .u64 0, .string ⟨#[]⟩] 31)).heap.size (w.alloc (.cells #[.int .i64 0, .int .u64 0, .int .i64 0, .int .u64 0, .int .u64 0, .string ⟨#[]⟩] 31)) w') :
    Calls Tryz.prog 159 #[.pointer (some ⟨b, 0, none⟩)] w fun e w' => e = .returned (.tuple #[.agg #[.int .i64 xk, .int .u64 xb, .int .i64 xc, .int .u64 xo, .int .u64 xn, .string xt], .bool mo]) ∧ Below w.heap.size w w' := by
  have hz : Below w.heap.size w (w.alloc (.cells #[.int .i64 0, .int .u64 0, .int .i64 0, .int .u64 0, .int .u64 0, .string ⟨#[]⟩] 31)) := (Below.refl _ _).alloc (Nat.le_refl _) _
  have B0 := Blk.new w 31 #[.int .i64 0, .int .u64 0, .int .i64 0, .int .u64 0, .int .u64 0, .string ⟨#[]⟩]
  have c7 := hBc.cell 7
  have c9 := hBc.cell 9
  have hlt := hBc.lt
  replace hBc := Lib.hid hBc
  replace hz := Lib.hid hz
  replace B0 := Lib.hid B0
  replace hA := Lib.hid hA
  go_enter Tryz.func159, Tryz.ntmps159
  go_wp2_with fail
  refine (hA.out).mono ?_; rintro e w1 ⟨rfl, hb⟩
  have B1 := B0.out.below hb B0.out.lt
  have hb1 := nx hz.out (Nat.le_refl _) hb
  clear hb c7 c9
  have b1c0 := B1.cell 0
  have b1c1 := B1.cell 1
  have b1c2 := B1.cell 2
  have b1c3 := B1.cell 3
  have b1c4 := B1.cell 4
  have b1c5 := B1.cell 5
  have b1f0 := B1.frozen 0
  have b1f1 := B1.frozen 1
  have b1f2 := B1.frozen 2
  have b1f3 := B1.frozen 3
  have b1f4 := B1.frozen 4
  have b1f5 := B1.frozen 5
  replace B1 := Lib.hid B1
  replace hb1 := Lib.hid hb1
  go_wp2_with fail
  refine gen_world (α := fun W' => bodyPost _ _ _ _ _ W') (fun W' => Blk W' w.heap.size 31 #[.int .i64 xk, .int .u64 xb, .int .i64 xc, .int .u64 xo, .int .u64 xn, .string xt] ∧ Below w.heap.size w W') ⟨Blk.eq_cs ((((((B1.out.set_ 0 _).set_ 1 _).set_ 2 _).set_ 3 _).set_ 4 _).set_ 5 _) rfl, ?_⟩ ?_
  · repeat (refine Below.setCell ?_ (by exact Nat.le_refl _) _)
    exact hb1.out
  rintro W' ⟨g1, g2⟩
  have e0 := g1.cell 0
  have e1 := g1.cell 1
  have e2 := g1.cell 2
  have e3 := g1.cell 3
  have e4 := g1.cell 4
  have e5 := g1.cell 5
  exact bodyPost_ret (v := .tuple #[.agg #[.int .i64 xk, .int .u64 xb, .int .i64 xc, .int .u64 xo, .int .u64 xn, .string xt], .bool mo]) (by simp [results, Tryz.results159, go_sem, e0, e1, e2, e3, e4, e5]) rfl ⟨rfl, g2⟩
set_option maxRecDepth 100000 in
set_option maxHeartbeats 2000000 in
theorem readAct2_any {w : World} {b : Nat} {c : PCfg} {key : ByteArray} {acts pp pe code mark : Int} {pt took : Bool} {value : ByteArray} {pv cv : Value} {rb : Nat} {xk xb xc xo xn : Int} {xt : ByteArray} {mo : Bool} (hBc : Blk w b 128 #[.int .i64 c.cap, .int .i64 c.pins, .int .i64 c.shelves, .int .i64 c.queue, .int .i64 c.watchers, .int .u64 c.seed, .string key, .int .i64 2, .int .i64 acts, pv, .int .i64 pp, .int .u64 pe, .bool pt, .pointer (some ⟨rb, 0, none⟩), cv, .int .i64 code, .int .i64 0, .int .i64 0, .bool took, .string value, .slice none 0 0, .int .i64 0, .slice none 0 0, .int .i64 mark, .int .u64 0])
    (hA : Calls Tryz.prog 104 #[.pointer (some ⟨rb, 0, none⟩)] (w.alloc (.cells #[.int .i64 0, .int .u64 0, .int .i64 0, .int .u64 0, .int .u64 0, .string ⟨#[]⟩] 31)) fun e w' => e = .returned (.tuple #[.agg #[.int .i64 xk, .int .u64 xb, .int .i64 xc, .int .u64 xo, .int .u64 xn, .string xt], .bool mo]) ∧ Below (w.alloc (.cells #[.int .i64 0, .int .u64 0, .int .i64 0, .int .u64 0, .int .u64 0, .string ⟨#[]⟩] 31)).heap.size (w.alloc (.cells #[.int .i64 0, .int .u64 0, .int .i64 0, .int .u64 0, .int .u64 0, .string ⟨#[]⟩] 31)) w') :
    Calls Tryz.prog 159 #[.pointer (some ⟨b, 0, none⟩)] w fun e w' => e = .returned (.tuple #[.agg #[.int .i64 xk, .int .u64 xb, .int .i64 xc, .int .u64 xo, .int .u64 xn, .string xt], .bool mo]) ∧ Below w.heap.size w w' := by
  have hz : Below w.heap.size w (w.alloc (.cells #[.int .i64 0, .int .u64 0, .int .i64 0, .int .u64 0, .int .u64 0, .string ⟨#[]⟩] 31)) := (Below.refl _ _).alloc (Nat.le_refl _) _
  have B0 := Blk.new w 31 #[.int .i64 0, .int .u64 0, .int .i64 0, .int .u64 0, .int .u64 0, .string ⟨#[]⟩]
  have c7 := hBc.cell 7
  have c13 := hBc.cell 13
  have hlt := hBc.lt
  replace hBc := Lib.hid hBc
  replace hz := Lib.hid hz
  replace B0 := Lib.hid B0
  replace hA := Lib.hid hA
  go_enter Tryz.func159, Tryz.ntmps159
  go_wp2_with fail
  refine (hA.out).mono ?_; rintro e w1 ⟨rfl, hb⟩
  have B1 := B0.out.below hb B0.out.lt
  have hb1 := nx hz.out (Nat.le_refl _) hb
  clear hb c7 c13
  have b1c0 := B1.cell 0
  have b1c1 := B1.cell 1
  have b1c2 := B1.cell 2
  have b1c3 := B1.cell 3
  have b1c4 := B1.cell 4
  have b1c5 := B1.cell 5
  have b1f0 := B1.frozen 0
  have b1f1 := B1.frozen 1
  have b1f2 := B1.frozen 2
  have b1f3 := B1.frozen 3
  have b1f4 := B1.frozen 4
  have b1f5 := B1.frozen 5
  replace B1 := Lib.hid B1
  replace hb1 := Lib.hid hb1
  go_wp2_with fail
  refine gen_world (α := fun W' => bodyPost _ _ _ _ _ W') (fun W' => Blk W' w.heap.size 31 #[.int .i64 xk, .int .u64 xb, .int .i64 xc, .int .u64 xo, .int .u64 xn, .string xt] ∧ Below w.heap.size w W') ⟨Blk.eq_cs ((((((B1.out.set_ 0 _).set_ 1 _).set_ 2 _).set_ 3 _).set_ 4 _).set_ 5 _) rfl, ?_⟩ ?_
  · repeat (refine Below.setCell ?_ (by exact Nat.le_refl _) _)
    exact hb1.out
  rintro W' ⟨g1, g2⟩
  have e0 := g1.cell 0
  have e1 := g1.cell 1
  have e2 := g1.cell 2
  have e3 := g1.cell 3
  have e4 := g1.cell 4
  have e5 := g1.cell 5
  exact bodyPost_ret (v := .tuple #[.agg #[.int .i64 xk, .int .u64 xb, .int .i64 xc, .int .u64 xo, .int .u64 xn, .string xt], .bool mo]) (by simp [results, Tryz.results159, go_sem, e0, e1, e2, e3, e4, e5]) rfl ⟨rfl, g2⟩
set_option maxRecDepth 100000 in
set_option maxHeartbeats 2000000 in
theorem readAct3_any {w : World} {b : Nat} {c : PCfg} {key : ByteArray} {acts pp pe code mark : Int} {pt took : Bool} {value : ByteArray} {pv fv : Value} {rb : Nat} {xk xb xc xo xn : Int} {xt : ByteArray} {mo : Bool} (hBc : Blk w b 128 #[.int .i64 c.cap, .int .i64 c.pins, .int .i64 c.shelves, .int .i64 c.queue, .int .i64 c.watchers, .int .u64 c.seed, .string key, .int .i64 3, .int .i64 acts, pv, .int .i64 pp, .int .u64 pe, .bool pt, fv, .pointer (some ⟨rb, 0, none⟩), .int .i64 code, .int .i64 0, .int .i64 0, .bool took, .string value, .slice none 0 0, .int .i64 0, .slice none 0 0, .int .i64 mark, .int .u64 0])
    (hA : Calls Tryz.prog 40 #[.pointer (some ⟨rb, 0, none⟩)] (w.alloc (.cells #[.int .i64 0, .int .u64 0, .int .i64 0, .int .u64 0, .int .u64 0, .string ⟨#[]⟩] 31)) fun e w' => e = .returned (.tuple #[.agg #[.int .i64 xk, .int .u64 xb, .int .i64 xc, .int .u64 xo, .int .u64 xn, .string xt], .bool mo]) ∧ Below (w.alloc (.cells #[.int .i64 0, .int .u64 0, .int .i64 0, .int .u64 0, .int .u64 0, .string ⟨#[]⟩] 31)).heap.size (w.alloc (.cells #[.int .i64 0, .int .u64 0, .int .i64 0, .int .u64 0, .int .u64 0, .string ⟨#[]⟩] 31)) w') :
    Calls Tryz.prog 159 #[.pointer (some ⟨b, 0, none⟩)] w fun e w' => e = .returned (.tuple #[.agg #[.int .i64 xk, .int .u64 xb, .int .i64 xc, .int .u64 xo, .int .u64 xn, .string xt], .bool mo]) ∧ Below w.heap.size w w' := by
  have hz : Below w.heap.size w (w.alloc (.cells #[.int .i64 0, .int .u64 0, .int .i64 0, .int .u64 0, .int .u64 0, .string ⟨#[]⟩] 31)) := (Below.refl _ _).alloc (Nat.le_refl _) _
  have B0 := Blk.new w 31 #[.int .i64 0, .int .u64 0, .int .i64 0, .int .u64 0, .int .u64 0, .string ⟨#[]⟩]
  have c7 := hBc.cell 7
  have c14 := hBc.cell 14
  have hlt := hBc.lt
  replace hBc := Lib.hid hBc
  replace hz := Lib.hid hz
  replace B0 := Lib.hid B0
  replace hA := Lib.hid hA
  go_enter Tryz.func159, Tryz.ntmps159
  go_wp2_with fail
  refine (hA.out).mono ?_; rintro e w1 ⟨rfl, hb⟩
  have B1 := B0.out.below hb B0.out.lt
  have hb1 := nx hz.out (Nat.le_refl _) hb
  clear hb c7 c14
  have b1c0 := B1.cell 0
  have b1c1 := B1.cell 1
  have b1c2 := B1.cell 2
  have b1c3 := B1.cell 3
  have b1c4 := B1.cell 4
  have b1c5 := B1.cell 5
  have b1f0 := B1.frozen 0
  have b1f1 := B1.frozen 1
  have b1f2 := B1.frozen 2
  have b1f3 := B1.frozen 3
  have b1f4 := B1.frozen 4
  have b1f5 := B1.frozen 5
  replace B1 := Lib.hid B1
  replace hb1 := Lib.hid hb1
  go_wp2_with fail
  refine gen_world (α := fun W' => bodyPost _ _ _ _ _ W') (fun W' => Blk W' w.heap.size 31 #[.int .i64 xk, .int .u64 xb, .int .i64 xc, .int .u64 xo, .int .u64 xn, .string xt] ∧ Below w.heap.size w W') ⟨Blk.eq_cs ((((((B1.out.set_ 0 _).set_ 1 _).set_ 2 _).set_ 3 _).set_ 4 _).set_ 5 _) rfl, ?_⟩ ?_
  · repeat (refine Below.setCell ?_ (by exact Nat.le_refl _) _)
    exact hb1.out
  rintro W' ⟨g1, g2⟩
  have e0 := g1.cell 0
  have e1 := g1.cell 1
  have e2 := g1.cell 2
  have e3 := g1.cell 3
  have e4 := g1.cell 4
  have e5 := g1.cell 5
  exact bodyPost_ret (v := .tuple #[.agg #[.int .i64 xk, .int .u64 xb, .int .i64 xc, .int .u64 xo, .int .u64 xn, .string xt], .bool mo]) (by simp [results, Tryz.results159, go_sem, e0, e1, e2, e3, e4, e5]) rfl ⟨rfl, g2⟩
set_option maxRecDepth 100000 in
set_option maxHeartbeats 2000000 in
theorem readAct4_any {w : World} {b : Nat} {c : PCfg} {key : ByteArray} {acts pp pe code mark : Int} {pt took : Bool} {value : ByteArray} {pv fv cv : Value} (hBc : Blk w b 128 #[.int .i64 c.cap, .int .i64 c.pins, .int .i64 c.shelves, .int .i64 c.queue, .int .i64 c.watchers, .int .u64 c.seed, .string key, .int .i64 4, .int .i64 acts, pv, .int .i64 pp, .int .u64 pe, .bool pt, fv, cv, .int .i64 code, .int .i64 0, .int .i64 0, .bool took, .string value, .slice none 0 0, .int .i64 0, .slice none 0 0, .int .i64 mark, .int .u64 0]) (hc : c.Right) (hpp : 0 ≤ pp ∧ pp < c.pins) :
    Calls Tryz.prog 159 #[.pointer (some ⟨b, 0, none⟩)] w fun e w' => e = .returned (.tuple #[.agg #[.int .i64 2, .int .u64 1, .int .i64 (3 + pp), .int .u64 0, .int .u64 0, .string ⟨#[]⟩], .bool true]) ∧ Below w.heap.size w w' := by
  have hF := fun W => free_any c hc pp hpp W
  rw [show c.val = .agg #[.int .i64 c.cap, .int .i64 c.pins, .int .i64 c.shelves, .int .i64 c.queue, .int .i64 c.watchers, .int .u64 c.seed] from rfl] at hF
  have c7 := hBc.cell 7
  have hlt := hBc.lt
  obtain ⟨W, hW⟩ : ∃ W, W = w.alloc (.cells #[.int .i64 0, .int .u64 0, .int .i64 0, .int .u64 0, .int .u64 0, .string ⟨#[]⟩] 31) := ⟨_, rfl⟩
  have hBw := hBc.alloc (.cells #[.int .i64 0, .int .u64 0, .int .i64 0, .int .u64 0, .int .u64 0, .string ⟨#[]⟩] 31)
  have B0w := Blk.new w 31 #[.int .i64 0, .int .u64 0, .int .i64 0, .int .u64 0, .int .u64 0, .string ⟨#[]⟩]
  have hzw : Below w.heap.size w (w.alloc (.cells #[.int .i64 0, .int .u64 0, .int .i64 0, .int .u64 0, .int .u64 0, .string ⟨#[]⟩] 31)) := (Below.refl _ _).alloc (Nat.le_refl _) _
  rw [← hW] at hBw B0w hzw
  have v0 := hBw.cell 0
  have v1 := hBw.cell 1
  have v2 := hBw.cell 2
  have v3 := hBw.cell 3
  have v4 := hBw.cell 4
  have v5 := hBw.cell 5
  have v10 := hBw.cell 10
  clear hBw hc hpp
  replace hBc := Lib.hid hBc
  replace hF := Lib.hid hF
  replace B0w := Lib.hid B0w
  replace hzw := Lib.hid hzw
  go_enter Tryz.func159, Tryz.ntmps159
  go_wp2_with fail
  rw [← hW]
  replace hW := Lib.hid hW
  clear c7
  go_region_with (go_at_call 41; refine (hF.out _).mono ?_; rintro e w1 ⟨rfl, hb⟩; have B1 := Blk.below (w := W.drew) B0w.out hb B0w.out.lt; have hb1 := nx (b := W.drew) hzw.out.drew (Nat.le_refl _) hb; clear hb; have b1c0 := B1.cell 0; have b1c1 := B1.cell 1; have b1c2 := B1.cell 2; have b1c3 := B1.cell 3; have b1c4 := B1.cell 4; have b1c5 := B1.cell 5; have b1f0 := B1.frozen 0; have b1f1 := B1.frozen 1; have b1f2 := B1.frozen 2; have b1f3 := B1.frozen 3; have b1f4 := B1.frozen 4; have b1f5 := B1.frozen 5; replace B1 := Lib.hid B1; replace hb1 := Lib.hid hb1)
  all_goals
    clear v0 v1 v2 v3 v4 v5 v10
    go_wp2_with fail
    refine gen_world (α := fun W' => bodyPost _ _ _ _ _ W') (fun W' => Blk W' w.heap.size 31 #[.int .i64 2, .int .u64 1, .int .i64 (3 + pp), .int .u64 0, .int .u64 0, .string ⟨#[]⟩] ∧ Below w.heap.size w W') ⟨Blk.eq_cs ((((((B1.out.set_ 0 _).set_ 1 _).set_ 2 _).set_ 3 _).set_ 4 _).set_ 5 _) rfl, ?_⟩ ?_
    · repeat (refine Below.setCell ?_ (by exact Nat.le_refl _) _)
      exact hb1.out
    rintro W' ⟨g1, g2⟩
    have e0 := g1.cell 0
    have e1 := g1.cell 1
    have e2 := g1.cell 2
    have e3 := g1.cell 3
    have e4 := g1.cell 4
    have e5 := g1.cell 5
    exact bodyPost_ret (v := .tuple #[.agg #[.int .i64 2, .int .u64 1, .int .i64 (3 + pp), .int .u64 0, .int .u64 0, .string ⟨#[]⟩], .bool true]) (by simp [results, Tryz.results159, go_sem, e0, e1, e2, e3, e4, e5]) rfl ⟨rfl, g2⟩
end Go.Proofs.YtmlnhjfdhjachaaGreat

/-
  What reading does behind pinning and behind looking for the key (layer 26). No condition.
-/
namespace Go.Proofs.YtmlnhjfdhjachaaGreat
set_option linter.unusedVariables false
open Go.ChangeShapes Go.WideShapes Go.ChangeAt Go.RowKit
open Go.ChangeMaps (setBlock)

set_option maxRecDepth 100000 in
set_option maxHeartbeats 2000000 in
theorem readPinT_any {w : World} {b : Nat} {c : PCfg} {key : ByteArray} {part acts pp pe code mark : Int} {pt took : Bool} {value : ByteArray} {pv fv cv : Value} {p e : Int} (hBc : Blk w b 128 #[.int .i64 c.cap, .int .i64 c.pins, .int .i64 c.shelves, .int .i64 c.queue, .int .i64 c.watchers, .int .u64 c.seed, .string key, .int .i64 part, .int .i64 acts, pv, .int .i64 pp, .int .u64 pe, .bool pt, fv, cv, .int .i64 code, .int .i64 0, .int .i64 0, .bool took, .string value, .slice none 0 0, .int .i64 0, .slice none 0 0, .int .i64 mark, .int .u64 0]) :
    Calls Tryz.prog 165 #[.pointer (some ⟨b, 0, none⟩), .agg #[.int .i64 p, .int .u64 e, .bool true]] w fun e w' => e = .returned (.tuple #[]) ∧ Blk w' b 128 #[.int .i64 c.cap, .int .i64 c.pins, .int .i64 c.shelves, .int .i64 c.queue, .int .i64 c.watchers, .int .u64 c.seed, .string key, .int .i64 5, .int .i64 acts, pv, .int .i64 pp, .int .u64 pe, .bool pt, fv, cv, .int .i64 11, .int .i64 0, .int .i64 0, .bool took, .string value, .slice none 0 0, .int .i64 0, .slice none 0 0, .int .i64 mark, .int .u64 0] ∧ Chg (fun k => k = b) w w' := by
  have hlt := hBc.lt
  have c7 := hBc.cell 7
  have c15 := hBc.cell 15
  have f7 := hBc.frozen 7
  have f15 := hBc.frozen 15
  replace hBc := Lib.hid hBc
  go_enter Tryz.func165, Tryz.ntmps165
  go_wp2_with fail
  refine gen_world (α := fun W' => bodyPost _ _ _ _ _ W') (fun W' => Blk W' b 128 #[.int .i64 c.cap, .int .i64 c.pins, .int .i64 c.shelves, .int .i64 c.queue, .int .i64 c.watchers, .int .u64 c.seed, .string key, .int .i64 5, .int .i64 acts, pv, .int .i64 pp, .int .u64 pe, .bool pt, fv, cv, .int .i64 11, .int .i64 0, .int .i64 0, .bool took, .string value, .slice none 0 0, .int .i64 0, .slice none 0 0, .int .i64 mark, .int .u64 0] ∧ Chg (fun k => k = b) w W') ⟨?_, ?_⟩ ?_
  · refine Blk.eq_cs (cs := (((#[.int .i64 c.cap, .int .i64 c.pins, .int .i64 c.shelves, .int .i64 c.queue, .int .i64 c.watchers, .int .u64 c.seed, .string key, .int .i64 part, .int .i64 acts, pv, .int .i64 pp, .int .u64 pe, .bool pt, fv, cv, .int .i64 code, .int .i64 0, .int .i64 0, .bool took, .string value, .slice none 0 0, .int .i64 0, .slice none 0 0, .int .i64 mark, .int .u64 0] : Array Value).setIfInBounds 15 (.int .i64 11)).setIfInBounds 7 (.int .i64 5))) ?_ rfl
    have hB := hBc.out
    (repeat first | with_reducible exact hB | with_reducible refine Blk.drewN ?_ _ | with_reducible refine Blk.drew ?_ | with_reducible refine Blk.alloc ?_ _ | with_reducible refine Blk.set_ ?_ _ _ | refine Blk.far ?_ (by simp; omega) _)
  · have hC := Chg.refl (fun k => k = b) w
    repeat first | with_reducible exact hC | with_reducible refine Chg.drew ?_ | with_reducible refine Chg.drewN ?_ _ | with_reducible refine Chg.alloc ?_ _ | refine Chg.setCell ?_ (by left; rfl) _
  rintro W' ⟨g1, g2⟩
  first | exact bodyPost_end (v := .tuple #[]) (results_none (by kernel_rfl) _ _ _) rfl ⟨rfl, g1, g2⟩ | exact bodyPost_ret (v := .tuple #[]) (results_none (by kernel_rfl) _ _ _) rfl ⟨rfl, g1, g2⟩
set_option maxRecDepth 100000 in
set_option maxHeartbeats 2000000 in
theorem readPinP_any {w : World} {b : Nat} {c : PCfg} {key : ByteArray} {part acts pp pe code mark : Int} {pt took : Bool} {value : ByteArray} {pv fv cv : Value} {p e : Int} (hBc : Blk w b 128 #[.int .i64 c.cap, .int .i64 c.pins, .int .i64 c.shelves, .int .i64 c.queue, .int .i64 c.watchers, .int .u64 c.seed, .string key, .int .i64 part, .int .i64 acts, pv, .int .i64 pp, .int .u64 pe, .bool pt, fv, cv, .int .i64 code, .int .i64 0, .int .i64 0, .bool took, .string value, .slice none 0 0, .int .i64 0, .slice none 0 0, .int .i64 mark, .int .u64 0]) (hk : key.size ≤ 9223372036854775807) :
    Calls Tryz.prog 165 #[.pointer (some ⟨b, 0, none⟩), .agg #[.int .i64 p, .int .u64 e, .bool false]] w fun x w' => x = .returned (.tuple #[]) ∧ ∃ fb, Blk w' b 128 #[.int .i64 c.cap, .int .i64 c.pins, .int .i64 c.shelves, .int .i64 c.queue, .int .i64 c.watchers, .int .u64 c.seed, .string key, .int .i64 2, .int .i64 acts, pv, .int .i64 p, .int .u64 e, .bool false, .pointer (some ⟨fb, 0, none⟩), cv, .int .i64 code, .int .i64 0, .int .i64 0, .bool took, .string value, .slice none 0 0, .int .i64 0, .slice none 0 0, .int .i64 acts, .int .u64 0] ∧ FindIn w' fb (newFind c key) ∧ w.heap.size ≤ fb ∧ Chg (fun k => k = b) w w' := by
  have hN := fun W => findNew_any c key hk W
  rw [show c.val = .agg #[.int .i64 c.cap, .int .i64 c.pins, .int .i64 c.shelves, .int .i64 c.queue, .int .i64 c.watchers, .int .u64 c.seed] from rfl] at hN
  have hlt := hBc.lt
  have c7 := hBc.cell 7
  have c8 := hBc.cell 8
  have c10 := hBc.cell 10
  have c11 := hBc.cell 11
  have c12 := hBc.cell 12
  have c23 := hBc.cell 23
  have f7 := hBc.frozen 7
  have f10 := hBc.frozen 10
  have f11 := hBc.frozen 11
  have f12 := hBc.frozen 12
  have f23 := hBc.frozen 23
  replace hBc := Lib.hid hBc
  replace hN := Lib.hid hN
  go_enter Tryz.func165, Tryz.ntmps165
  go_wp2_with fail
  go_region
  all_goals
    refine gen_world (α := fun W' => _) (fun W' => Blk W' b 128 #[.int .i64 c.cap, .int .i64 c.pins, .int .i64 c.shelves, .int .i64 c.queue, .int .i64 c.watchers, .int .u64 c.seed, .string key, .int .i64 2, .int .i64 acts, pv, .int .i64 p, .int .u64 e, .bool false, fv, cv, .int .i64 code, .int .i64 0, .int .i64 0, .bool took, .string value, .slice none 0 0, .int .i64 0, .slice none 0 0, .int .i64 acts, .int .u64 0] ∧ Chg (fun k => k = b) w W') ⟨?_, ?_⟩ ?_
    · refine Blk.eq_cs (cs := ((((((#[.int .i64 c.cap, .int .i64 c.pins, .int .i64 c.shelves, .int .i64 c.queue, .int .i64 c.watchers, .int .u64 c.seed, .string key, .int .i64 part, .int .i64 acts, pv, .int .i64 pp, .int .u64 pe, .bool pt, fv, cv, .int .i64 code, .int .i64 0, .int .i64 0, .bool took, .string value, .slice none 0 0, .int .i64 0, .slice none 0 0, .int .i64 mark, .int .u64 0] : Array Value).setIfInBounds 10 (.int .i64 p)).setIfInBounds 11 (.int .u64 e)).setIfInBounds 12 (.bool false)).setIfInBounds 23 (.int .i64 acts)).setIfInBounds 7 (.int .i64 2))) ?_ rfl
      have hB := hBc.out
      (repeat first | with_reducible exact hB | with_reducible refine Blk.drewN ?_ _ | with_reducible refine Blk.drew ?_ | with_reducible refine Blk.alloc ?_ _ | with_reducible refine Blk.set_ ?_ _ _ | refine Blk.far ?_ (by simp; omega) _)
    · have hC := Chg.refl (fun k => k = b) w
      repeat first | with_reducible exact hC | with_reducible refine Chg.drew ?_ | with_reducible refine Chg.drewN ?_ _ | with_reducible refine Chg.alloc ?_ _ | refine Chg.setCell ?_ (by left; rfl) _
    rintro W' ⟨g1, g2⟩
    have hs := g2.size
    have hltw := g1.lt
    have v0 := g1.cell 0
    have v1 := g1.cell 1
    have v2 := g1.cell 2
    have v3 := g1.cell 3
    have v4 := g1.cell 4
    have v5 := g1.cell 5
    have v6 := g1.cell 6
    have v13 := g1.cell 13
    have vf13 := g1.frozen 13
    clear c7 c8 c10 c11 c12 c23 f7 f10 f11 f12 f23
    replace g1 := Lib.hid g1
    replace g2 := Lib.hid g2
    go_wp2_with fail
    go_region_with (go_at_call 60; refine (hN.out _).mono ?_; rintro x w2 ⟨fb, rfl, hV, hfb, hb2⟩; have hBw := Blk.below (w := W'.drew) g1.out hb2 hltw; have hC2 : Chg (fun k => k = b) w w2 := g2.out.drew.next_ hb2; have y13 := hBw.cell 13; have yf13 := hBw.frozen 13; have hltw2 := hBw.lt; clear hb2; replace hBw := Lib.hid hBw; replace hC2 := Lib.hid hC2; replace hV := Lib.hid hV)
    all_goals
      go_wp2_with fail
      refine gen_world (α := fun W' => bodyPost _ _ _ _ _ W') (fun W2 => Blk W2 b 128 #[.int .i64 c.cap, .int .i64 c.pins, .int .i64 c.shelves, .int .i64 c.queue, .int .i64 c.watchers, .int .u64 c.seed, .string key, .int .i64 2, .int .i64 acts, pv, .int .i64 p, .int .u64 e, .bool false, .pointer (some ⟨fb, 0, none⟩), cv, .int .i64 code, .int .i64 0, .int .i64 0, .bool took, .string value, .slice none 0 0, .int .i64 0, .slice none 0 0, .int .i64 acts, .int .u64 0] ∧ FindIn W2 fb (newFind c key) ∧ Chg (fun k => k = b) w W2) ⟨?_, ?_, ?_⟩ ?_
      · refine Blk.eq_cs (cs := ((#[.int .i64 c.cap, .int .i64 c.pins, .int .i64 c.shelves, .int .i64 c.queue, .int .i64 c.watchers, .int .u64 c.seed, .string key, .int .i64 2, .int .i64 acts, pv, .int .i64 p, .int .u64 e, .bool false, fv, cv, .int .i64 code, .int .i64 0, .int .i64 0, .bool took, .string value, .slice none 0 0, .int .i64 0, .slice none 0 0, .int .i64 acts, .int .u64 0] : Array Value).setIfInBounds 13 (.pointer (some ⟨fb, 0, none⟩)))) ?_ rfl
        have hB := hBw.out
        (repeat first | with_reducible exact hB | with_reducible refine Blk.drewN ?_ _ | with_reducible refine Blk.drew ?_ | with_reducible refine Blk.alloc ?_ _ | with_reducible refine Blk.set_ ?_ _ _ | refine Blk.far ?_ (by simp; omega) _)
      · have hfb' : W'.heap.size ≤ fb := hfb
        exact hV.out.keep (Below.heap_setCell _ _ _ fb (by show fb ≠ b; omega))
      · have hC := hC2.out
        repeat first | with_reducible exact hC | with_reducible refine Chg.drew ?_ | with_reducible refine Chg.drewN ?_ _ | with_reducible refine Chg.alloc ?_ _ | refine Chg.setCell ?_ (by left; rfl) _
      rintro W2 ⟨k1, k2, k3⟩
      have hfb' : W'.heap.size ≤ fb := hfb
      first | exact bodyPost_end (v := .tuple #[]) (results_none (by kernel_rfl) _ _ _) rfl ⟨rfl, fb, k1, k2, by omega, k3⟩ | exact bodyPost_ret (v := .tuple #[]) (results_none (by kernel_rfl) _ _ _) rfl ⟨rfl, fb, k1, k2, by omega, k3⟩
set_option maxRecDepth 100000 in
set_option maxHeartbeats 2000000 in
theorem readNo_any {w : World} {b : Nat} {c : PCfg} {key : ByteArray} {part acts pp pe code mark : Int} {pt took : Bool} {value : ByteArray} {pv fv cv : Value} {kd sh : Int} (hBc : Blk w b 128 #[.int .i64 c.cap, .int .i64 c.pins, .int .i64 c.shelves, .int .i64 c.queue, .int .i64 c.watchers, .int .u64 c.seed, .string key, .int .i64 part, .int .i64 acts, pv, .int .i64 pp, .int .u64 pe, .bool pt, fv, cv, .int .i64 code, .int .i64 0, .int .i64 0, .bool took, .string value, .slice none 0 0, .int .i64 0, .slice none 0 0, .int .i64 mark, .int .u64 0]) (hkd : kd ≠ 1) :
    Calls Tryz.prog 167 #[.pointer (some ⟨b, 0, none⟩), .agg #[.int .i64 kd, .int .i64 sh]] w fun x w' => x = .returned (.tuple #[]) ∧ Blk w' b 128 #[.int .i64 c.cap, .int .i64 c.pins, .int .i64 c.shelves, .int .i64 c.queue, .int .i64 c.watchers, .int .u64 c.seed, .string key, .int .i64 4, .int .i64 acts, pv, .int .i64 pp, .int .u64 pe, .bool pt, fv, cv, .int .i64 code, .int .i64 0, .int .i64 0, .bool took, .string value, .slice none 0 0, .int .i64 0, .slice none 0 0, .int .i64 mark, .int .u64 0] ∧ Chg (fun k => k = b) w w' := by
  have hlt := hBc.lt
  have d1 : (kd == 1) = false := by simp [hkd]
  have c7 := hBc.cell 7
  have f7 := hBc.frozen 7
  replace hBc := Lib.hid hBc
  replace hkd := Lib.hid hkd
  go_enter Tryz.func167, Tryz.ntmps167
  go_wp2_with fail
  refine gen_world (α := fun W' => bodyPost _ _ _ _ _ W') (fun W' => Blk W' b 128 #[.int .i64 c.cap, .int .i64 c.pins, .int .i64 c.shelves, .int .i64 c.queue, .int .i64 c.watchers, .int .u64 c.seed, .string key, .int .i64 4, .int .i64 acts, pv, .int .i64 pp, .int .u64 pe, .bool pt, fv, cv, .int .i64 code, .int .i64 0, .int .i64 0, .bool took, .string value, .slice none 0 0, .int .i64 0, .slice none 0 0, .int .i64 mark, .int .u64 0] ∧ Chg (fun k => k = b) w W') ⟨?_, ?_⟩ ?_
  · refine Blk.eq_cs (cs := ((#[.int .i64 c.cap, .int .i64 c.pins, .int .i64 c.shelves, .int .i64 c.queue, .int .i64 c.watchers, .int .u64 c.seed, .string key, .int .i64 part, .int .i64 acts, pv, .int .i64 pp, .int .u64 pe, .bool pt, fv, cv, .int .i64 code, .int .i64 0, .int .i64 0, .bool took, .string value, .slice none 0 0, .int .i64 0, .slice none 0 0, .int .i64 mark, .int .u64 0] : Array Value).setIfInBounds 7 (.int .i64 4))) ?_ rfl
    have hB := hBc.out
    (repeat first | with_reducible exact hB | with_reducible refine Blk.drewN ?_ _ | with_reducible refine Blk.drew ?_ | with_reducible refine Blk.alloc ?_ _ | with_reducible refine Blk.set_ ?_ _ _ | refine Blk.far ?_ (by simp; omega) _)
  · have hC := Chg.refl (fun k => k = b) w
    repeat first | with_reducible exact hC | with_reducible refine Chg.drew ?_ | with_reducible refine Chg.drewN ?_ _ | with_reducible refine Chg.alloc ?_ _ | refine Chg.setCell ?_ (by left; rfl) _
  rintro W' ⟨g1, g2⟩
  first | exact bodyPost_end (v := .tuple #[]) (results_none (by kernel_rfl) _ _ _) rfl ⟨rfl, g1, g2⟩ | exact bodyPost_ret (v := .tuple #[]) (results_none (by kernel_rfl) _ _ _) rfl ⟨rfl, g1, g2⟩
set_option maxRecDepth 100000 in
set_option maxHeartbeats 2000000 in
theorem readYes_any {w : World} {b : Nat} {c : PCfg} {key : ByteArray} {part acts pp pe code mark : Int} {pt took : Bool} {value : ByteArray} {pv fv cv : Value} {sh : Int} (hBc : Blk w b 128 #[.int .i64 c.cap, .int .i64 c.pins, .int .i64 c.shelves, .int .i64 c.queue, .int .i64 c.watchers, .int .u64 c.seed, .string key, .int .i64 part, .int .i64 acts, pv, .int .i64 pp, .int .u64 pe, .bool pt, fv, cv, .int .i64 code, .int .i64 0, .int .i64 0, .bool took, .string value, .slice none 0 0, .int .i64 0, .slice none 0 0, .int .i64 mark, .int .u64 0]) (hc : c.Right) (hsh : 0 ≤ sh ∧ sh < c.shelves) (hpe : 0 ≤ pe ∧ pe ≤ 18446744073709551615) :
    Calls Tryz.prog 167 #[.pointer (some ⟨b, 0, none⟩), .agg #[.int .i64 1, .int .i64 sh]] w fun x w' => x = .returned (.tuple #[]) ∧ ∃ cb, Blk w' b 128 #[.int .i64 c.cap, .int .i64 c.pins, .int .i64 c.shelves, .int .i64 c.queue, .int .i64 c.watchers, .int .u64 c.seed, .string key, .int .i64 3, .int .i64 acts, pv, .int .i64 pp, .int .u64 pe, .bool pt, fv, .pointer (some ⟨cb, 0, none⟩), .int .i64 code, .int .i64 0, .int .i64 0, .bool took, .string value, .slice none 0 0, .int .i64 0, .slice none 0 0, .int .i64 mark, .int .u64 0] ∧ ChainIn w' cb (newChain (3 + c.pins + c.cap + 2 * sh + 1) pe) ∧ w.heap.size ≤ cb ∧ Chg (fun k => k = b) w w' := by
  have hN := fun W => chainNew_any c hc sh hsh pe hpe W
  rw [show c.val = .agg #[.int .i64 c.cap, .int .i64 c.pins, .int .i64 c.shelves, .int .i64 c.queue, .int .i64 c.watchers, .int .u64 c.seed] from rfl] at hN
  generalize newChain (3 + c.pins + c.cap + 2 * sh + 1) pe = NC at *
  have hlt := hBc.lt
  clear hc hsh hpe
  have c7 := hBc.cell 7
  have f7 := hBc.frozen 7
  replace hBc := Lib.hid hBc
  replace hN := Lib.hid hN
  go_enter Tryz.func167, Tryz.ntmps167
  go_wp2_with fail
  refine gen_world (α := fun W' => _) (fun W' => Blk W' b 128 #[.int .i64 c.cap, .int .i64 c.pins, .int .i64 c.shelves, .int .i64 c.queue, .int .i64 c.watchers, .int .u64 c.seed, .string key, .int .i64 4, .int .i64 acts, pv, .int .i64 pp, .int .u64 pe, .bool pt, fv, cv, .int .i64 code, .int .i64 0, .int .i64 0, .bool took, .string value, .slice none 0 0, .int .i64 0, .slice none 0 0, .int .i64 mark, .int .u64 0] ∧ Blk W' w.heap.size 120 #[.int .i64 1, .int .i64 sh] ∧ Chg (fun k => k = b) w W') ⟨?_, ?_, ?_⟩ ?_
  · refine Blk.eq_cs (cs := ((#[.int .i64 c.cap, .int .i64 c.pins, .int .i64 c.shelves, .int .i64 c.queue, .int .i64 c.watchers, .int .u64 c.seed, .string key, .int .i64 part, .int .i64 acts, pv, .int .i64 pp, .int .u64 pe, .bool pt, fv, cv, .int .i64 code, .int .i64 0, .int .i64 0, .bool took, .string value, .slice none 0 0, .int .i64 0, .slice none 0 0, .int .i64 mark, .int .u64 0] : Array Value).setIfInBounds 7 (.int .i64 4))) ?_ rfl
    have hB := hBc.out
    (repeat first | with_reducible exact hB | with_reducible refine Blk.drewN ?_ _ | with_reducible refine Blk.drew ?_ | with_reducible refine Blk.alloc ?_ _ | with_reducible refine Blk.set_ ?_ _ _ | refine Blk.far ?_ (by simp; omega) _)
  · have hN0 := Blk.new (w.setCell ⟨b, 7, none⟩ (.int .i64 4)) 120 #[.int .i64 1, .int .i64 sh]
    rw [size_setCell] at hN0
    exact hN0
  · have hC := Chg.refl (fun k => k = b) w
    repeat first | with_reducible exact hC | with_reducible refine Chg.drew ?_ | with_reducible refine Chg.drewN ?_ _ | with_reducible refine Chg.alloc ?_ _ | refine Chg.setCell ?_ (by left; rfl) _
  rintro W' ⟨g1, g0, g2⟩
  have hs := g2.size
  have hltw := g1.lt
  have u1 := g0.cell 1
  have hltk := g0.lt
  have v0 := g1.cell 0
  have v1 := g1.cell 1
  have v2 := g1.cell 2
  have v3 := g1.cell 3
  have v4 := g1.cell 4
  have v5 := g1.cell 5
  have v7 := g1.cell 7
  have v11 := g1.cell 11
  have v14 := g1.cell 14
  have vf7 := g1.frozen 7
  have vf14 := g1.frozen 14
  clear c7 f7
  replace g1 := Lib.hid g1
  replace g2 := Lib.hid g2
  replace g0 := Lib.hid g0
  go_region_with (go_at_call 52; refine (hN.out _).mono ?_; rintro x w2 ⟨cb, rfl, hV, hcb, hb2⟩; have hBw := Blk.below (w := W'.drew) g1.out hb2 hltw; have hC2 : Chg (fun k => k = b) w w2 := g2.out.drew.next_ hb2; have y14 := hBw.cell 14; have y7 := hBw.cell 7; have yf14 := hBw.frozen 14; have yf7 := hBw.frozen 7; have hltw2 := hBw.lt; clear hb2; replace hBw := Lib.hid hBw; replace hC2 := Lib.hid hC2; replace hV := Lib.hid hV)
  all_goals
    go_wp2_with fail
    refine gen_world (α := fun W' => bodyPost _ _ _ _ _ W') (fun W2 => Blk W2 b 128 #[.int .i64 c.cap, .int .i64 c.pins, .int .i64 c.shelves, .int .i64 c.queue, .int .i64 c.watchers, .int .u64 c.seed, .string key, .int .i64 3, .int .i64 acts, pv, .int .i64 pp, .int .u64 pe, .bool pt, fv, .pointer (some ⟨cb, 0, none⟩), .int .i64 code, .int .i64 0, .int .i64 0, .bool took, .string value, .slice none 0 0, .int .i64 0, .slice none 0 0, .int .i64 mark, .int .u64 0] ∧ ChainIn W2 cb NC ∧ Chg (fun k => k = b) w W2) ⟨?_, ?_, ?_⟩ ?_
    · refine Blk.eq_cs (cs := (((#[.int .i64 c.cap, .int .i64 c.pins, .int .i64 c.shelves, .int .i64 c.queue, .int .i64 c.watchers, .int .u64 c.seed, .string key, .int .i64 4, .int .i64 acts, pv, .int .i64 pp, .int .u64 pe, .bool pt, fv, cv, .int .i64 code, .int .i64 0, .int .i64 0, .bool took, .string value, .slice none 0 0, .int .i64 0, .slice none 0 0, .int .i64 mark, .int .u64 0] : Array Value).setIfInBounds 14 (.pointer (some ⟨cb, 0, none⟩))).setIfInBounds 7 (.int .i64 3))) ?_ rfl
      have hB := hBw.out
      (repeat first | with_reducible exact hB | with_reducible refine Blk.drewN ?_ _ | with_reducible refine Blk.drew ?_ | with_reducible refine Blk.alloc ?_ _ | with_reducible refine Blk.set_ ?_ _ _ | refine Blk.far ?_ (by simp; omega) _)
    · have hcb' : W'.heap.size ≤ cb := hcb
      exact (hV.out.keep (Below.heap_setCell _ _ _ cb (by show cb ≠ b; omega))).keep (Below.heap_setCell _ _ _ cb (by show cb ≠ b; omega))
    · have hC := hC2.out
      repeat first | with_reducible exact hC | with_reducible refine Chg.drew ?_ | with_reducible refine Chg.drewN ?_ _ | with_reducible refine Chg.alloc ?_ _ | refine Chg.setCell ?_ (by left; rfl) _
    rintro W2 ⟨k1, k2, k3⟩
    have hcb' : W'.heap.size ≤ cb := hcb
    first | exact bodyPost_end (v := .tuple #[]) (results_none (by kernel_rfl) _ _ _) rfl ⟨rfl, cb, k1, k2, by omega, k3⟩ | exact bodyPost_ret (v := .tuple #[]) (results_none (by kernel_rfl) _ _ _) rfl ⟨rfl, cb, k1, k2, by omega, k3⟩
end Go.Proofs.YtmlnhjfdhjachaaGreat

/-
  What reading does behind each answer (layer 26): settle. No condition.
-/
namespace Go.Proofs.YtmlnhjfdhjachaaGreat
set_option linter.unusedVariables false
open Go.ChangeShapes Go.WideShapes Go.ChangeAt Go.RowKit
open Go.ChangeMaps (setBlock)

set_option maxRecDepth 100000 in
set_option maxHeartbeats 2000000 in
theorem thenNo (g : Value) (w : World) : Calls Tryz.prog 163 #[.bool false, g] w fun e w' => e = .returned (.tuple #[]) ∧ w = w' := by
  go_enter Tryz.func163, Tryz.ntmps163
  go_wp2_with fail
  first | exact bodyPost_end (v := .tuple #[]) (results_none (by kernel_rfl) _ _ _) rfl ⟨rfl, rfl⟩ | exact bodyPost_ret (v := .tuple #[]) (results_none (by kernel_rfl) _ _ _) rfl ⟨rfl, rfl⟩
set_option maxRecDepth 100000 in
set_option maxHeartbeats 2000000 in
theorem then2 (c1 c2 : Value) (w : World) {Q : World → Prop} (h : Calls Tryz.prog 164 #[c1, c2] w fun e w' => e = .returned (.tuple #[]) ∧ Q w') : Calls Tryz.prog 163 #[.bool true, .func (.func 164) #[] #[c1, c2]] w fun e w' => e = .returned (.tuple #[]) ∧ Q w' := by
  replace h := Lib.hid h
  go_enter Tryz.func163, Tryz.ntmps163
  go_wp2_with fail
  refine (h.out).mono ?_; rintro e w1 ⟨rfl, hq⟩
  replace hq := Lib.hid hq
  go_wp2_with fail
  first | exact bodyPost_end (v := .tuple #[]) (results_none (by kernel_rfl) _ _ _) rfl ⟨rfl, hq.out⟩ | exact bodyPost_ret (v := .tuple #[]) (results_none (by kernel_rfl) _ _ _) rfl ⟨rfl, hq.out⟩
set_option maxRecDepth 100000 in
set_option maxHeartbeats 2000000 in
theorem then3 (c1 c2 : Value) (w : World) {Q : World → Prop} (h : Calls Tryz.prog 166 #[c1, c2] w fun e w' => e = .returned (.tuple #[]) ∧ Q w') : Calls Tryz.prog 163 #[.bool true, .func (.func 166) #[] #[c1, c2]] w fun e w' => e = .returned (.tuple #[]) ∧ Q w' := by
  replace h := Lib.hid h
  go_enter Tryz.func163, Tryz.ntmps163
  go_wp2_with fail
  refine (h.out).mono ?_; rintro e w1 ⟨rfl, hq⟩
  replace hq := Lib.hid hq
  go_wp2_with fail
  first | exact bodyPost_end (v := .tuple #[]) (results_none (by kernel_rfl) _ _ _) rfl ⟨rfl, hq.out⟩ | exact bodyPost_ret (v := .tuple #[]) (results_none (by kernel_rfl) _ _ _) rfl ⟨rfl, hq.out⟩
set_option maxRecDepth 100000 in
set_option maxHeartbeats 2000000 in
theorem then4 (c1 c2 : Value) (w : World) {Q : World → Prop} (h : Calls Tryz.prog 168 #[c1, c2] w fun e w' => e = .returned (.tuple #[]) ∧ Q w') : Calls Tryz.prog 163 #[.bool true, .func (.func 168) #[] #[c1, c2]] w fun e w' => e = .returned (.tuple #[]) ∧ Q w' := by
  replace h := Lib.hid h
  go_enter Tryz.func163, Tryz.ntmps163
  go_wp2_with fail
  refine (h.out).mono ?_; rintro e w1 ⟨rfl, hq⟩
  replace hq := Lib.hid hq
  go_wp2_with fail
  first | exact bodyPost_end (v := .tuple #[]) (results_none (by kernel_rfl) _ _ _) rfl ⟨rfl, hq.out⟩ | exact bodyPost_ret (v := .tuple #[]) (results_none (by kernel_rfl) _ _ _) rfl ⟨rfl, hq.out⟩
set_option maxRecDepth 100000 in
set_option maxHeartbeats 2000000 in
theorem behind2 {w : World} {b xb rb : Nat} {p ep : Int} {tk : Bool} (hx : Blk w xb 60 #[.pointer (some ⟨b, 0, none⟩)]) (hr : Blk w rb 93 #[.int .i64 p, .int .u64 ep, .bool tk]) {Q : World → Prop} (h : Calls Tryz.prog 165 #[.pointer (some ⟨b, 0, none⟩), .agg #[.int .i64 p, .int .u64 ep, .bool tk]] w fun e w' => e = .returned (.tuple #[]) ∧ Q w') : Calls Tryz.prog 164 #[.pointer (some ⟨xb, 0, none⟩), .pointer (some ⟨rb, 0, none⟩)] w fun e w' => e = .returned (.tuple #[]) ∧ Q w' := by
  have x0 := hx.cell 0
  have r0 := hr.cell 0
  have r1 := hr.cell 1
  have r2 := hr.cell 2
  replace h := Lib.hid h
  replace hx := Lib.hid hx
  replace hr := Lib.hid hr
  go_enter Tryz.func164, Tryz.ntmps164
  go_wp2_with fail
  refine (h.out).mono ?_; rintro e w1 ⟨rfl, hq⟩
  replace hq := Lib.hid hq
  go_wp2_with fail
  first | exact bodyPost_end (v := .tuple #[]) (results_none (by kernel_rfl) _ _ _) rfl ⟨rfl, hq.out⟩ | exact bodyPost_ret (v := .tuple #[]) (results_none (by kernel_rfl) _ _ _) rfl ⟨rfl, hq.out⟩
set_option maxRecDepth 100000 in
set_option maxHeartbeats 2000000 in
theorem behind3 {w : World} {b xb rb : Nat} {kd sh : Int} (hx : Blk w xb 60 #[.pointer (some ⟨b, 0, none⟩)]) (hr : Blk w rb 120 #[.int .i64 kd, .int .i64 sh]) {Q : World → Prop} (h : Calls Tryz.prog 167 #[.pointer (some ⟨b, 0, none⟩), .agg #[.int .i64 kd, .int .i64 sh]] w fun e w' => e = .returned (.tuple #[]) ∧ Q w') : Calls Tryz.prog 166 #[.pointer (some ⟨xb, 0, none⟩), .pointer (some ⟨rb, 0, none⟩)] w fun e w' => e = .returned (.tuple #[]) ∧ Q w' := by
  have x0 := hx.cell 0
  have r0 := hr.cell 0
  have r1 := hr.cell 1
  replace h := Lib.hid h
  replace hx := Lib.hid hx
  replace hr := Lib.hid hr
  go_enter Tryz.func166, Tryz.ntmps166
  go_wp2_with fail
  refine (h.out).mono ?_; rintro e w1 ⟨rfl, hq⟩
  replace hq := Lib.hid hq
  go_wp2_with fail
  first | exact bodyPost_end (v := .tuple #[]) (results_none (by kernel_rfl) _ _ _) rfl ⟨rfl, hq.out⟩ | exact bodyPost_ret (v := .tuple #[]) (results_none (by kernel_rfl) _ _ _) rfl ⟨rfl, hq.out⟩
set_option maxRecDepth 100000 in
set_option maxHeartbeats 2000000 in
theorem behind4 {w : World} {b : Nat} {c : PCfg} {key : ByteArray} {part acts pp pe code mark : Int} {pt took : Bool} {value : ByteArray} {pv fv cv : Value} {xb vb : Nat} {hs : Bool} {tx : ByteArray} {vk : Int} (hBc : Blk w b 128 #[.int .i64 c.cap, .int .i64 c.pins, .int .i64 c.shelves, .int .i64 c.queue, .int .i64 c.watchers, .int .u64 c.seed, .string key, .int .i64 part, .int .i64 acts, pv, .int .i64 pp, .int .u64 pe, .bool pt, fv, cv, .int .i64 code, .int .i64 0, .int .i64 0, .bool took, .string value, .slice none 0 0, .int .i64 0, .slice none 0 0, .int .i64 mark, .int .u64 0]) (hx : Blk w xb 60 #[.pointer (some ⟨b, 0, none⟩)]) (hr : Blk w vb 149 #[.bool hs, .string tx, .int .u64 vk]) (hne : xb ≠ b) : Calls Tryz.prog 168 #[.pointer (some ⟨vb, 0, none⟩), .pointer (some ⟨xb, 0, none⟩)] w fun e w' => e = .returned (.tuple #[]) ∧ Blk w' b 128 #[.int .i64 c.cap, .int .i64 c.pins, .int .i64 c.shelves, .int .i64 c.queue, .int .i64 c.watchers, .int .u64 c.seed, .string key, .int .i64 4, .int .i64 acts, pv, .int .i64 pp, .int .u64 pe, .bool pt, fv, cv, .int .i64 0, .int .i64 0, .int .i64 0, .bool hs, .string tx, .slice none 0 0, .int .i64 0, .slice none 0 0, .int .i64 mark, .int .u64 0] ∧ Chg (fun k => k = b) w w' := by
  have x0 := hx.cell 0
  have r0 := hr.cell 0
  have r1 := hr.cell 1
  have hne1 : ¬ xb = b := hne
  have hne2 : ¬ b = xb := fun e => hne e.symm
  have hlt := hBc.lt
  have c7 := hBc.cell 7
  have f7 := hBc.frozen 7
  have c15 := hBc.cell 15
  have f15 := hBc.frozen 15
  have c16 := hBc.cell 16
  have f16 := hBc.frozen 16
  have c17 := hBc.cell 17
  have f17 := hBc.frozen 17
  have c18 := hBc.cell 18
  have f18 := hBc.frozen 18
  have c19 := hBc.cell 19
  have f19 := hBc.frozen 19
  have c20 := hBc.cell 20
  have f20 := hBc.frozen 20
  have c21 := hBc.cell 21
  have f21 := hBc.frozen 21
  have c22 := hBc.cell 22
  have f22 := hBc.frozen 22
  replace hBc := Lib.hid hBc
  replace hx := Lib.hid hx
  replace hr := Lib.hid hr
  replace hne := Lib.hid hne
  go_enter Tryz.func168, Tryz.ntmps168
  go_wp2_with fail
  refine gen_world (α := fun W' => bodyPost _ _ _ _ _ W') (fun W' => Blk W' b 128 #[.int .i64 c.cap, .int .i64 c.pins, .int .i64 c.shelves, .int .i64 c.queue, .int .i64 c.watchers, .int .u64 c.seed, .string key, .int .i64 4, .int .i64 acts, pv, .int .i64 pp, .int .u64 pe, .bool pt, fv, cv, .int .i64 0, .int .i64 0, .int .i64 0, .bool hs, .string tx, .slice none 0 0, .int .i64 0, .slice none 0 0, .int .i64 mark, .int .u64 0] ∧ Chg (fun k => k = b) w W') ⟨?_, ?_⟩ ?_
  · refine Blk.eq_cs (cs := ((((((((((#[.int .i64 c.cap, .int .i64 c.pins, .int .i64 c.shelves, .int .i64 c.queue, .int .i64 c.watchers, .int .u64 c.seed, .string key, .int .i64 part, .int .i64 acts, pv, .int .i64 pp, .int .u64 pe, .bool pt, fv, cv, .int .i64 code, .int .i64 0, .int .i64 0, .bool took, .string value, .slice none 0 0, .int .i64 0, .slice none 0 0, .int .i64 mark, .int .u64 0] : Array Value).setIfInBounds 15 (.int .i64 0)).setIfInBounds 16 (.int .i64 0)).setIfInBounds 17 (.int .i64 0)).setIfInBounds 18 (.bool hs)).setIfInBounds 19 (.string tx)).setIfInBounds 20 (.slice none 0 0)).setIfInBounds 21 (.int .i64 0)).setIfInBounds 22 (.slice none 0 0)).setIfInBounds 7 (.int .i64 4))) ?_ (by kernel_rfl)
    have hB := hBc.out
    (repeat first | with_reducible exact hB | with_reducible refine Blk.drewN ?_ _ | with_reducible refine Blk.drew ?_ | with_reducible refine Blk.alloc ?_ _ | with_reducible refine Blk.set_ ?_ _ _ | refine Blk.far ?_ (by simp; omega) _)
  · have hC := Chg.refl (fun k => k = b) w
    repeat first | with_reducible exact hC | with_reducible refine Chg.drew ?_ | with_reducible refine Chg.drewN ?_ _ | with_reducible refine Chg.alloc ?_ _ | refine Chg.setCell ?_ (by left; rfl) _
  rintro W' ⟨g1, g2⟩
  first | exact bodyPost_end (v := .tuple #[]) (results_none (by kernel_rfl) _ _ _) rfl ⟨rfl, g1, g2⟩ | exact bodyPost_ret (v := .tuple #[]) (results_none (by kernel_rfl) _ _ _) rfl ⟨rfl, g1, g2⟩
set_option maxRecDepth 100000 in
set_option maxHeartbeats 2000000 in
theorem settle1n_any {w : World} {b : Nat} {c : PCfg} {key : ByteArray} {acts pp pe code mark : Int} {pt took : Bool} {value : ByteArray} {fv cv : Value} {rb : Nat} (hBc : Blk w b 128 #[.int .i64 c.cap, .int .i64 c.pins, .int .i64 c.shelves, .int .i64 c.queue, .int .i64 c.watchers, .int .u64 c.seed, .string key, .int .i64 1, .int .i64 acts, .pointer (some ⟨rb, 0, none⟩), .int .i64 pp, .int .u64 pe, .bool pt, fv, cv, .int .i64 code, .int .i64 0, .int .i64 0, .bool took, .string value, .slice none 0 0, .int .i64 0, .slice none 0 0, .int .i64 mark, .int .u64 0])
    (hR : ∀ W : World, Below w.heap.size w W → Calls Tryz.prog 81 #[.pointer (some ⟨rb, 0, none⟩)] W fun e w' => e = .returned (.tuple #[.agg #[.int .i64 0, .int .u64 0, .bool false], .bool false]) ∧ Below W.heap.size W w') :
    Calls Tryz.prog 161 #[.pointer (some ⟨b, 0, none⟩)] w fun e w' => e = .returned (.tuple #[]) ∧ Below w.heap.size w w' := by
  have hz : Below w.heap.size w (w.alloc (.cells #[.pointer (some ⟨b, 0, none⟩)] 60)) := (Below.refl _ _).alloc (Nat.le_refl _) _
  have B0 := Blk.new w 60 #[.pointer (some ⟨b, 0, none⟩)]
  have hR0 := hR _ hz
  have c7 := hBc.cell 7
  have c9 := hBc.cell 9
  have hlt := hBc.lt
  clear hR
  replace hBc := Lib.hid hBc
  replace hz := Lib.hid hz
  replace B0 := Lib.hid B0
  replace hR0 := Lib.hid hR0
  go_enter Tryz.func161, Tryz.ntmps161
  go_wp2_with fail
  refine (hR0.out).mono ?_; rintro e w1 ⟨rfl, hb⟩
  have B1 := B0.out.below hb B0.out.lt
  have hb1 := nx hz.out (Nat.le_refl _) hb
  clear hb c7 c9
  replace B1 := Lib.hid B1
  replace hb1 := Lib.hid hb1
  go_wp2_with (refine (thenNo _ _).mono ?_; rintro e w2 ⟨rfl, rfl⟩)
  first | exact bodyPost_end (v := .tuple #[]) (results_none (by kernel_rfl) _ _ _) rfl ⟨rfl, hb1.out.alloc hb1.out.size _⟩ | exact bodyPost_ret (v := .tuple #[]) (results_none (by kernel_rfl) _ _ _) rfl ⟨rfl, hb1.out.alloc hb1.out.size _⟩
set_option maxRecDepth 100000 in
set_option maxHeartbeats 2000000 in
theorem settle2n_any {w : World} {b : Nat} {c : PCfg} {key : ByteArray} {acts pp pe code mark : Int} {pt took : Bool} {value : ByteArray} {pv cv : Value} {rb : Nat} (hBc : Blk w b 128 #[.int .i64 c.cap, .int .i64 c.pins, .int .i64 c.shelves, .int .i64 c.queue, .int .i64 c.watchers, .int .u64 c.seed, .string key, .int .i64 2, .int .i64 acts, pv, .int .i64 pp, .int .u64 pe, .bool pt, .pointer (some ⟨rb, 0, none⟩), cv, .int .i64 code, .int .i64 0, .int .i64 0, .bool took, .string value, .slice none 0 0, .int .i64 0, .slice none 0 0, .int .i64 mark, .int .u64 0])
    (hR : ∀ W : World, Below w.heap.size w W → Calls Tryz.prog 61 #[.pointer (some ⟨rb, 0, none⟩)] W fun e w' => e = .returned (.tuple #[.agg #[.int .i64 0, .int .i64 0], .bool false]) ∧ Below W.heap.size W w') :
    Calls Tryz.prog 161 #[.pointer (some ⟨b, 0, none⟩)] w fun e w' => e = .returned (.tuple #[]) ∧ Below w.heap.size w w' := by
  have hz : Below w.heap.size w (w.alloc (.cells #[.pointer (some ⟨b, 0, none⟩)] 60)) := (Below.refl _ _).alloc (Nat.le_refl _) _
  have B0 := Blk.new w 60 #[.pointer (some ⟨b, 0, none⟩)]
  have hR0 := hR _ hz
  have c7 := hBc.cell 7
  have c13 := hBc.cell 13
  have hlt := hBc.lt
  clear hR
  replace hBc := Lib.hid hBc
  replace hz := Lib.hid hz
  replace B0 := Lib.hid B0
  replace hR0 := Lib.hid hR0
  go_enter Tryz.func161, Tryz.ntmps161
  go_wp2_with fail
  refine (hR0.out).mono ?_; rintro e w1 ⟨rfl, hb⟩
  have B1 := B0.out.below hb B0.out.lt
  have hb1 := nx hz.out (Nat.le_refl _) hb
  clear hb c7 c13
  replace B1 := Lib.hid B1
  replace hb1 := Lib.hid hb1
  go_wp2_with (refine (thenNo _ _).mono ?_; rintro e w2 ⟨rfl, rfl⟩)
  first | exact bodyPost_end (v := .tuple #[]) (results_none (by kernel_rfl) _ _ _) rfl ⟨rfl, hb1.out.alloc hb1.out.size _⟩ | exact bodyPost_ret (v := .tuple #[]) (results_none (by kernel_rfl) _ _ _) rfl ⟨rfl, hb1.out.alloc hb1.out.size _⟩
set_option maxRecDepth 100000 in
set_option maxHeartbeats 2000000 in
theorem settle3n_any {w : World} {b : Nat} {c : PCfg} {key : ByteArray} {acts pp pe code mark : Int} {pt took : Bool} {value : ByteArray} {pv fv : Value} {rb : Nat} (hBc : Blk w b 128 #[.int .i64 c.cap, .int .i64 c.pins, .int .i64 c.shelves, .int .i64 c.queue, .int .i64 c.watchers, .int .u64 c.seed, .string key, .int .i64 3, .int .i64 acts, pv, .int .i64 pp, .int .u64 pe, .bool pt, fv, .pointer (some ⟨rb, 0, none⟩), .int .i64 code, .int .i64 0, .int .i64 0, .bool took, .string value, .slice none 0 0, .int .i64 0, .slice none 0 0, .int .i64 mark, .int .u64 0])
    (hR : ∀ W : World, Below w.heap.size w W → Calls Tryz.prog 84 #[.pointer (some ⟨rb, 0, none⟩)] W fun e w' => e = .returned (.tuple #[.agg #[.bool false, .string ⟨#[]⟩, .int .u64 0], .bool false]) ∧ Below W.heap.size W w') :
    Calls Tryz.prog 161 #[.pointer (some ⟨b, 0, none⟩)] w fun e w' => e = .returned (.tuple #[]) ∧ Below w.heap.size w w' := by
  have hz : Below w.heap.size w (w.alloc (.cells #[.pointer (some ⟨b, 0, none⟩)] 60)) := (Below.refl _ _).alloc (Nat.le_refl _) _
  have B0 := Blk.new w 60 #[.pointer (some ⟨b, 0, none⟩)]
  have hR0 := hR _ hz
  have c7 := hBc.cell 7
  have c14 := hBc.cell 14
  have hlt := hBc.lt
  clear hR
  replace hBc := Lib.hid hBc
  replace hz := Lib.hid hz
  replace B0 := Lib.hid B0
  replace hR0 := Lib.hid hR0
  go_enter Tryz.func161, Tryz.ntmps161
  go_wp2_with fail
  refine (hR0.out).mono ?_; rintro e w1 ⟨rfl, hb⟩
  have B1 := B0.out.below hb B0.out.lt
  have hb1 := nx hz.out (Nat.le_refl _) hb
  clear hb c7 c14
  replace B1 := Lib.hid B1
  replace hb1 := Lib.hid hb1
  go_wp2_with (refine (thenNo _ _).mono ?_; rintro e w2 ⟨rfl, rfl⟩)
  first | exact bodyPost_end (v := .tuple #[]) (results_none (by kernel_rfl) _ _ _) rfl ⟨rfl, hb1.out.alloc hb1.out.size _⟩ | exact bodyPost_ret (v := .tuple #[]) (results_none (by kernel_rfl) _ _ _) rfl ⟨rfl, hb1.out.alloc hb1.out.size _⟩
set_option maxRecDepth 100000 in
set_option maxHeartbeats 2000000 in
theorem settle5_any {w : World} {b : Nat} {c : PCfg} {key : ByteArray} {acts pp pe code mark : Int} {pt took : Bool} {value : ByteArray} {pv fv cv : Value} (hBc : Blk w b 128 #[.int .i64 c.cap, .int .i64 c.pins, .int .i64 c.shelves, .int .i64 c.queue, .int .i64 c.watchers, .int .u64 c.seed, .string key, .int .i64 5, .int .i64 acts, pv, .int .i64 pp, .int .u64 pe, .bool pt, fv, cv, .int .i64 code, .int .i64 0, .int .i64 0, .bool took, .string value, .slice none 0 0, .int .i64 0, .slice none 0 0, .int .i64 mark, .int .u64 0]) : Calls Tryz.prog 161 #[.pointer (some ⟨b, 0, none⟩)] w fun e w' => e = .returned (.tuple #[]) ∧ Below w.heap.size w w' := by
  have hz : Below w.heap.size w (w.alloc (.cells #[.pointer (some ⟨b, 0, none⟩)] 60)) := (Below.refl _ _).alloc (Nat.le_refl _) _
  have c7 := hBc.cell 7
  have hlt := hBc.lt
  replace hBc := Lib.hid hBc
  replace hz := Lib.hid hz
  go_enter Tryz.func161, Tryz.ntmps161
  go_wp2_with fail
  first | exact bodyPost_end (v := .tuple #[]) (results_none (by kernel_rfl) _ _ _) rfl ⟨rfl, hz.out⟩ | exact bodyPost_ret (v := .tuple #[]) (results_none (by kernel_rfl) _ _ _) rfl ⟨rfl, hz.out⟩
set_option maxRecDepth 100000 in
set_option maxHeartbeats 2000000 in
theorem settle1y_any {w : World} {b : Nat} {c : PCfg} {key : ByteArray} {acts pp pe code mark : Int} {pt took : Bool} {value : ByteArray} {fv cv : Value} {rb : Nat} {p ep : Int} {tk : Bool} (hBc : Blk w b 128 #[.int .i64 c.cap, .int .i64 c.pins, .int .i64 c.shelves, .int .i64 c.queue, .int .i64 c.watchers, .int .u64 c.seed, .string key, .int .i64 1, .int .i64 acts, .pointer (some ⟨rb, 0, none⟩), .int .i64 pp, .int .u64 pe, .bool pt, fv, cv, .int .i64 code, .int .i64 0, .int .i64 0, .bool took, .string value, .slice none 0 0, .int .i64 0, .slice none 0 0, .int .i64 mark, .int .u64 0])
    (hR : ∀ W : World, Below w.heap.size w W → Calls Tryz.prog 81 #[.pointer (some ⟨rb, 0, none⟩)] W fun e w' => e = .returned (.tuple #[.agg #[.int .i64 p, .int .u64 ep, .bool tk], .bool true]) ∧ Below W.heap.size W w') {Post : World → World → Prop}
    (hP : ∀ W : World, Below w.heap.size w W → Blk W b 128 #[.int .i64 c.cap, .int .i64 c.pins, .int .i64 c.shelves, .int .i64 c.queue, .int .i64 c.watchers, .int .u64 c.seed, .string key, .int .i64 1, .int .i64 acts, .pointer (some ⟨rb, 0, none⟩), .int .i64 pp, .int .u64 pe, .bool pt, fv, cv, .int .i64 code, .int .i64 0, .int .i64 0, .bool took, .string value, .slice none 0 0, .int .i64 0, .slice none 0 0, .int .i64 mark, .int .u64 0] → Calls Tryz.prog 165 #[.pointer (some ⟨b, 0, none⟩), .agg #[.int .i64 p, .int .u64 ep, .bool tk]] W fun e w' => e = .returned (.tuple #[]) ∧ Post W w') :
    Calls Tryz.prog 161 #[.pointer (some ⟨b, 0, none⟩)] w fun e w' => e = .returned (.tuple #[]) ∧ ∃ W, Below w.heap.size w W ∧ Post W w' := by
  have hz : Below w.heap.size w (w.alloc (.cells #[.pointer (some ⟨b, 0, none⟩)] 60)) := (Below.refl _ _).alloc (Nat.le_refl _) _
  have B0 := Blk.new w 60 #[.pointer (some ⟨b, 0, none⟩)]
  have hR0 := hR _ hz
  have c7 := hBc.cell 7
  have c9 := hBc.cell 9
  have hlt := hBc.lt
  clear hR
  replace hBc := Lib.hid hBc
  replace hz := Lib.hid hz
  replace B0 := Lib.hid B0
  replace hR0 := Lib.hid hR0
  replace hP := Lib.hid hP
  go_enter Tryz.func161, Tryz.ntmps161
  go_wp2_with fail
  refine (hR0.out).mono ?_; rintro e w1 ⟨rfl, hb⟩
  have B1 := (B0.out.below hb B0.out.lt).alloc (.cells #[.int .i64 p, .int .u64 ep, .bool tk] 93)
  have R1 := Blk.new w1 93 #[.int .i64 p, .int .u64 ep, .bool tk]
  have hb0 := nx hz.out (Nat.le_refl _) hb
  have hb1 := hb0.alloc hb0.size (.cells #[.int .i64 p, .int .u64 ep, .bool tk] 93)
  have hB1 := hBc.out.below hb1 hlt
  have hPc := then2 _ _ _ (behind2 B1 R1 (hP.out _ hb1 hB1))
  have hs0 := hb0.size
  have hxl := B1.lt
  have hrl := R1.lt
  clear hb c7 c9 hP
  replace B1 := Lib.hid B1
  replace R1 := Lib.hid R1
  replace hb0 := Lib.hid hb0
  replace hb1 := Lib.hid hb1
  replace hB1 := Lib.hid hB1
  replace hPc := Lib.hid hPc
  go_wp2_with (refine (hPc.out).mono ?_; rintro e w2 ⟨rfl, hpo⟩; replace hpo := Lib.hid hpo)
  first | exact bodyPost_end (v := .tuple #[]) (results_none (by kernel_rfl) _ _ _) rfl ⟨rfl, _, hb1.out, hpo.out⟩ | exact bodyPost_ret (v := .tuple #[]) (results_none (by kernel_rfl) _ _ _) rfl ⟨rfl, _, hb1.out, hpo.out⟩
set_option maxRecDepth 100000 in
set_option maxHeartbeats 2000000 in
theorem settle2y_any {w : World} {b : Nat} {c : PCfg} {key : ByteArray} {acts pp pe code mark : Int} {pt took : Bool} {value : ByteArray} {pv cv : Value} {rb : Nat} {kd sh : Int} (hBc : Blk w b 128 #[.int .i64 c.cap, .int .i64 c.pins, .int .i64 c.shelves, .int .i64 c.queue, .int .i64 c.watchers, .int .u64 c.seed, .string key, .int .i64 2, .int .i64 acts, pv, .int .i64 pp, .int .u64 pe, .bool pt, .pointer (some ⟨rb, 0, none⟩), cv, .int .i64 code, .int .i64 0, .int .i64 0, .bool took, .string value, .slice none 0 0, .int .i64 0, .slice none 0 0, .int .i64 mark, .int .u64 0])
    (hR : ∀ W : World, Below w.heap.size w W → Calls Tryz.prog 61 #[.pointer (some ⟨rb, 0, none⟩)] W fun e w' => e = .returned (.tuple #[.agg #[.int .i64 kd, .int .i64 sh], .bool true]) ∧ Below W.heap.size W w') {Post : World → World → Prop}
    (hP : ∀ W : World, Below w.heap.size w W → Blk W b 128 #[.int .i64 c.cap, .int .i64 c.pins, .int .i64 c.shelves, .int .i64 c.queue, .int .i64 c.watchers, .int .u64 c.seed, .string key, .int .i64 2, .int .i64 acts, pv, .int .i64 pp, .int .u64 pe, .bool pt, .pointer (some ⟨rb, 0, none⟩), cv, .int .i64 code, .int .i64 0, .int .i64 0, .bool took, .string value, .slice none 0 0, .int .i64 0, .slice none 0 0, .int .i64 mark, .int .u64 0] → Calls Tryz.prog 167 #[.pointer (some ⟨b, 0, none⟩), .agg #[.int .i64 kd, .int .i64 sh]] W fun e w' => e = .returned (.tuple #[]) ∧ Post W w') :
    Calls Tryz.prog 161 #[.pointer (some ⟨b, 0, none⟩)] w fun e w' => e = .returned (.tuple #[]) ∧ ∃ W, Below w.heap.size w W ∧ Post W w' := by
  have hz : Below w.heap.size w (w.alloc (.cells #[.pointer (some ⟨b, 0, none⟩)] 60)) := (Below.refl _ _).alloc (Nat.le_refl _) _
  have B0 := Blk.new w 60 #[.pointer (some ⟨b, 0, none⟩)]
  have hR0 := hR _ hz
  have c7 := hBc.cell 7
  have c13 := hBc.cell 13
  have hlt := hBc.lt
  clear hR
  replace hBc := Lib.hid hBc
  replace hz := Lib.hid hz
  replace B0 := Lib.hid B0
  replace hR0 := Lib.hid hR0
  replace hP := Lib.hid hP
  go_enter Tryz.func161, Tryz.ntmps161
  go_wp2_with fail
  refine (hR0.out).mono ?_; rintro e w1 ⟨rfl, hb⟩
  have B1 := (B0.out.below hb B0.out.lt).alloc (.cells #[.int .i64 kd, .int .i64 sh] 120)
  have R1 := Blk.new w1 120 #[.int .i64 kd, .int .i64 sh]
  have hb0 := nx hz.out (Nat.le_refl _) hb
  have hb1 := hb0.alloc hb0.size (.cells #[.int .i64 kd, .int .i64 sh] 120)
  have hB1 := hBc.out.below hb1 hlt
  have hPc := then3 _ _ _ (behind3 B1 R1 (hP.out _ hb1 hB1))
  have hs0 := hb0.size
  have hxl := B1.lt
  have hrl := R1.lt
  clear hb c7 c13 hP
  replace B1 := Lib.hid B1
  replace R1 := Lib.hid R1
  replace hb0 := Lib.hid hb0
  replace hb1 := Lib.hid hb1
  replace hB1 := Lib.hid hB1
  replace hPc := Lib.hid hPc
  go_wp2_with (refine (hPc.out).mono ?_; rintro e w2 ⟨rfl, hpo⟩; replace hpo := Lib.hid hpo)
  first | exact bodyPost_end (v := .tuple #[]) (results_none (by kernel_rfl) _ _ _) rfl ⟨rfl, _, hb1.out, hpo.out⟩ | exact bodyPost_ret (v := .tuple #[]) (results_none (by kernel_rfl) _ _ _) rfl ⟨rfl, _, hb1.out, hpo.out⟩
set_option maxRecDepth 100000 in
set_option maxHeartbeats 2000000 in
theorem settle3y_any {w : World} {b : Nat} {c : PCfg} {key : ByteArray} {acts pp pe code mark : Int} {pt took : Bool} {value : ByteArray} {pv fv : Value} {rb : Nat} {hs : Bool} {tx : ByteArray} {vk : Int} (hBc : Blk w b 128 #[.int .i64 c.cap, .int .i64 c.pins, .int .i64 c.shelves, .int .i64 c.queue, .int .i64 c.watchers, .int .u64 c.seed, .string key, .int .i64 3, .int .i64 acts, pv, .int .i64 pp, .int .u64 pe, .bool pt, fv, .pointer (some ⟨rb, 0, none⟩), .int .i64 code, .int .i64 0, .int .i64 0, .bool took, .string value, .slice none 0 0, .int .i64 0, .slice none 0 0, .int .i64 mark, .int .u64 0])
    (hR : ∀ W : World, Below w.heap.size w W → Calls Tryz.prog 84 #[.pointer (some ⟨rb, 0, none⟩)] W fun e w' => e = .returned (.tuple #[.agg #[.bool hs, .string tx, .int .u64 vk], .bool true]) ∧ Below W.heap.size W w') :
    Calls Tryz.prog 161 #[.pointer (some ⟨b, 0, none⟩)] w fun e w' => e = .returned (.tuple #[]) ∧ Blk w' b 128 #[.int .i64 c.cap, .int .i64 c.pins, .int .i64 c.shelves, .int .i64 c.queue, .int .i64 c.watchers, .int .u64 c.seed, .string key, .int .i64 4, .int .i64 acts, pv, .int .i64 pp, .int .u64 pe, .bool pt, fv, .pointer (some ⟨rb, 0, none⟩), .int .i64 0, .int .i64 0, .int .i64 0, .bool hs, .string tx, .slice none 0 0, .int .i64 0, .slice none 0 0, .int .i64 mark, .int .u64 0] ∧ Chg (fun k => k = b) w w' := by
  have hz : Below w.heap.size w (w.alloc (.cells #[.pointer (some ⟨b, 0, none⟩)] 60)) := (Below.refl _ _).alloc (Nat.le_refl _) _
  have B0 := Blk.new w 60 #[.pointer (some ⟨b, 0, none⟩)]
  have hR0 := hR _ hz
  have c7 := hBc.cell 7
  have c14 := hBc.cell 14
  have hlt := hBc.lt
  clear hR
  replace hBc := Lib.hid hBc
  replace hz := Lib.hid hz
  replace B0 := Lib.hid B0
  replace hR0 := Lib.hid hR0
  go_enter Tryz.func161, Tryz.ntmps161
  go_wp2_with fail
  refine (hR0.out).mono ?_; rintro e w1 ⟨rfl, hb⟩
  have B1 := (B0.out.below hb B0.out.lt).alloc (.cells #[.bool hs, .string tx, .int .u64 vk] 149)
  have R1 := Blk.new w1 149 #[.bool hs, .string tx, .int .u64 vk]
  have hb0 := nx hz.out (Nat.le_refl _) hb
  have hb1 := hb0.alloc hb0.size (.cells #[.bool hs, .string tx, .int .u64 vk] 149)
  have hB1 := hBc.out.below hb1 hlt
  have hPc := then4 _ _ _ (behind4 hB1 B1 R1 (by omega))
  have hs0 := hb0.size
  have hxl := B1.lt
  have hrl := R1.lt
  clear hb c7 c14
  replace B1 := Lib.hid B1
  replace R1 := Lib.hid R1
  replace hb0 := Lib.hid hb0
  replace hb1 := Lib.hid hb1
  replace hB1 := Lib.hid hB1
  replace hPc := Lib.hid hPc
  go_wp2_with (refine (hPc.out).mono ?_; rintro e w2 ⟨rfl, hpo, hpc⟩; replace hpo := Lib.hid hpo; replace hpc := Lib.hid hpc)
  first | exact bodyPost_end (v := .tuple #[]) (results_none (by kernel_rfl) _ _ _) rfl ⟨rfl, hpo.out, (Chg.of_below hb1.out (fun k => k = b)).trans hpc.out fun i hi => Or.inl hi⟩ | exact bodyPost_ret (v := .tuple #[]) (results_none (by kernel_rfl) _ _ _) rfl ⟨rfl, hpo.out, (Chg.of_below hb1.out (fun k => k = b)).trans hpc.out fun i hi => Or.inl hi⟩
end Go.Proofs.YtmlnhjfdhjachaaGreat
