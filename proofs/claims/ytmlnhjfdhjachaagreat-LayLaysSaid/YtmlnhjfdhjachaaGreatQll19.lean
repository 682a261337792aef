import Derived.Test.YtmlnhjfdhjachaaGreatQll18
/-
  The routine that reads all keys (layer 27): what it is. No condition. (Printed by tools/vw.py.)
-/
namespace Go.Proofs.YtmlnhjfdhjachaaGreat
set_option linter.unusedVariables false
open Go.ChangeShapes Go.WideShapes Go.ChangeAt Go.RowKit
open Go.ChangeMaps (setBlock)

structure PView where
  cfg : PCfg
  part : Int
  acts : Int
  pin : PPin
  pp : Int
  pe : Int
  pt : Bool
  shelf : Int
  block : Int
  key : ByteArray
  chain : PChain
  seen : List (ByteArray × ByteArray)
  code : Int
  mark : Int
def PView.cells (s : PView) (pv cv sv ov : Value) : Array Value := #[.int .i64 s.cfg.cap, .int .i64 s.cfg.pins, .int .i64 s.cfg.shelves, .int .i64 s.cfg.queue, .int .i64 s.cfg.watchers, .int .u64 s.cfg.seed, .int .i64 s.part, .int .i64 s.acts, pv, .int .i64 s.pp, .int .u64 s.pe, .bool s.pt, .int .i64 s.shelf, .int .u64 s.block, .string s.key, cv, sv, .int .i64 s.code, .int .i64 0, .int .i64 0, .bool false, .string ⟨#[]⟩, ov, .int .i64 0, .slice none 0 0, .int .i64 s.mark, .int .u64 0]
/-- A map of pairs with one stored. -/
def putM (l : List (ByteArray × ByteArray)) (k v : ByteArray) : List (ByteArray × ByteArray) :=
  if (∃ p ∈ l, p.1 = k) then l.map fun p => if p.1 = k then (k, v) else p else l ++ [(k, v)]
/-- On to the next shelf. -/
def PView.next (s : PView) : PView := { s with shelf := s.shelf + 1, part := if s.shelf + 1 = s.cfg.shelves then 5 else 2 }
/-- Behind pinning. -/
def PView.settle1 (s : PView) : PView :=
  if s.pin.part = 5 then
    (if s.pin.taken then { s with code := 11, part := 6 } else { s with pp := s.pin.pin, pe := s.pin.epoch, pt := s.pin.taken, mark := s.acts, part := 2 })
  else s
/-- Behind a chain's act. -/
def PView.settle4 (s : PView) : PView :=
  if s.chain.part = 6 then PView.next (if s.chain.has then { s with seen := putM s.seen s.key s.chain.text } else s) else s
/-- What it does next. -/
def PView.act (s : PView) : PAct × Bool :=
  if s.part = 1 then s.pin.act
  else if s.part = 2 then (⟨1, 1, 3 + s.cfg.pins + s.cfg.cap + 2 * s.shelf, 0, 0, ByteArray.empty⟩, true)
  else if s.part = 3 then (⟨6, s.block, 0, 0, 0, ByteArray.empty⟩, true)
  else if s.part = 4 then s.chain.act
  else if s.part = 5 then (⟨2, 1, 3 + s.pp, 0, 0, ByteArray.empty⟩, true)
  else (noAct, false)
/-- What it takes. -/
def PView.take (s : PView) (g : PGot) : PView :=
  if s.part = 1 then PView.settle1 { s with acts := IntKind.i64.wrap (s.acts + 1), pin := s.pin.take g }
  else if s.part = 2 then (if g.word = 0 then PView.next { s with acts := IntKind.i64.wrap (s.acts + 1), block := g.word } else { s with acts := IntKind.i64.wrap (s.acts + 1), block := g.word, part := 3 })
  else if s.part = 3 then { s with acts := IntKind.i64.wrap (s.acts + 1), key := g.text, part := 4, chain := newChain (3 + s.cfg.pins + s.cfg.cap + 2 * s.shelf + 1) s.pe }
  else if s.part = 4 then PView.settle4 { s with acts := IntKind.i64.wrap (s.acts + 1), chain := s.chain.take g }
  else if s.part = 5 then { s with acts := IntKind.i64.wrap (s.acts + 1), part := 6 }
  else s
def PView.done (s : PView) : Bool := decide (s.part = 6)
/-- The pairs that are told. -/
def PView.out (s : PView) : List (ByteArray × ByteArray) := if s.code = 0 then putAll [] s.seen else []
theorem seen_contains (l : List (ByteArray × ByteArray)) (k : ByteArray) : ((seenV l).map (·.1)).contains k.data.toList = decide ((∃ p ∈ l, p.1 = k)) := by
  unfold seenV
  rw [List.map_map, Bool.eq_iff_iff, List.contains_iff_mem, decide_eq_true_eq, List.mem_map]
  constructor
  · rintro ⟨p, hp, e⟩
    exact ⟨p, hp, ByteArray.ext (Array.toList_inj.mp e)⟩
  · rintro ⟨p, hp, e⟩
    exact ⟨p, hp, by rw [← e]; rfl⟩
theorem seen_put (l : List (ByteArray × ByteArray)) (k v : ByteArray) : putY (seenV l) k.data.toList (.agg #[.string k, .string v]) = seenV (putM l k v) := by
  unfold putY putM
  rw [seen_contains]
  by_cases hm : (∃ p ∈ l, p.1 = k)
  · rw [if_pos (decide_eq_true hm), if_pos hm]
    unfold seenV
    rw [List.map_map, List.map_map]
    apply List.map_congr_left
    intro p _
    by_cases h : p.1 = k
    · simp [h]
    · have h2 : ¬ p.1.data.toList = k.data.toList := fun e => h (ByteArray.ext (Array.toList_inj.mp e))
      simp [h, h2]
  · rw [if_neg (by simpa using hm), if_neg hm]
    simp [seenV]
theorem putM_get (l : List (ByteArray × ByteArray)) (k v t : ByteArray) : getP (putM l k v) t = if t = k then (true, v) else getP l t := by
  unfold putM
  split
  · rename_i hc
    induction l with
    | nil => simp at hc
    | cons p l ih =>
      show (if (if p.1 = k then (k, v) else p).1 = t then (true, (if p.1 = k then (k, v) else p).2) else getP (l.map fun p => if p.1 = k then (k, v) else p) t) = if t = k then (true, v) else (if p.1 = t then (true, p.2) else getP l t)
      by_cases hp : p.1 = k
      · rw [if_pos hp]
        by_cases ht : k = t
        · simp [ht]
        · rw [if_neg ht, if_neg (fun e => ht e.symm), if_neg (fun e => ht (hp.symm.trans e))]
          by_cases hc2 : (∃ p ∈ l, p.1 = k)
          · rw [ih hc2, if_neg (fun e => ht e.symm)]
          · have e : (l.map fun p => if p.1 = k then (k, v) else p) = l := by
              refine (List.map_congr_left (g := id) fun q hq => ?_).trans (List.map_id _)
              rw [if_neg]
              · rfl
              · intro e
                apply hc2
                exact ⟨q, hq, e⟩
            rw [e]
      · have hc2 : (∃ p ∈ l, p.1 = k) := by
          obtain ⟨q, hq, e⟩ := hc
          rcases List.mem_cons.1 hq with rfl | hq
          · exact absurd e hp
          · exact ⟨q, hq, e⟩
        rw [if_neg hp, ih hc2]
        by_cases ht : p.1 = t
        · rw [if_pos ht, if_pos ht, if_neg (fun e => hp (ht.trans e))]
        · rw [if_neg ht, if_neg ht]
  · rename_i hc
    rw [getP_app]
    show (if (getP l t).1 then getP l t else (if k = t then (true, v) else (false, ByteArray.empty))) = _
    by_cases ht : t = k
    · have hn : (getP l t).1 = false := by
        cases hg : (getP l t).1 with
        | false => rfl
        | true =>
          exfalso
          apply hc
          exact ⟨_, getP_in hg, ht⟩
      rw [hn]
      simp [ht]
    · have ht2 : ¬ k = t := fun e => ht e.symm
      rw [if_neg ht, if_neg ht2]
      cases hg : (getP l t).1 with
      | false => rw [getP_none l t hg]; rfl
      | true => rfl
theorem putM_nodup {l : List (ByteArray × ByteArray)} (h : (l.map (·.1)).Nodup) (k v : ByteArray) : ((putM l k v).map (·.1)).Nodup := by
  unfold putM
  split
  · rw [List.map_map]
    have e : (l.map ((fun p : ByteArray × ByteArray => p.1) ∘ fun p => if p.1 = k then (k, v) else p)) = l.map (·.1) := List.map_congr_left fun p _ => by
      by_cases hp : p.1 = k <;> simp [hp]
    rw [e]
    exact h
  · rename_i hc
    rw [List.map_append, List.nodup_append]
    refine ⟨h, by simp, ?_⟩
    intro a ha b hb e
    have hb : b = k := by simpa using hb
    subst hb
    subst e
    obtain ⟨q, hq, e⟩ := List.mem_map.1 ha
    exact hc ⟨q, hq, e⟩
theorem putM_len (l : List (ByteArray × ByteArray)) (k v : ByteArray) : (putM l k v).length ≤ l.length + 1 := by
  unfold putM
  split <;> simp
end Go.Proofs.YtmlnhjfdhjachaaGreat

/-
  The routine that reads all keys (layer 27): its next act, part by part. No condition. (Printed by tools/vw.py.)
-/
namespace Go.Proofs.YtmlnhjfdhjachaaGreat
set_option linter.unusedVariables false
open Go.ChangeShapes Go.WideShapes Go.ChangeAt Go.RowKit
open Go.ChangeMaps (setBlock)

set_option maxRecDepth 100000 in
set_option maxHeartbeats 4000000 in
theorem viewAct0_any {w : World} {b : Nat} {c : PCfg} {acts pp pe sh blk code mark : Int} {pt : Bool} {key : ByteArray} {pv cv sv ov : Value} (hBc : Blk w b 97 #[.int .i64 c.cap, .int .i64 c.pins, .int .i64 c.shelves, .int .i64 c.queue, .int .i64 c.watchers, .int .u64 c.seed, .int .i64 0, .int .i64 acts, pv, .int .i64 pp, .int .u64 pe, .bool pt, .int .i64 sh, .int .u64 blk, .string key, cv, sv, .int .i64 code, .int .i64 0, .int .i64 0, .bool false, .string ⟨#[]⟩, ov, .int .i64 0, .slice none 0 0, .int .i64 mark, .int .u64 0]) :
    Calls Tryz.prog 10 #[.pointer (some ⟨b, 0, none⟩)] w fun e w' => e = .returned (.tuple #[.agg #[.int .i64 0, .int .u64 0, .int .i64 0, .int .u64 0, .int .u64 0, .string ⟨#[]⟩], .bool false]) ∧ Below w.heap.size w w' := by
  have c6 := hBc.cell 6
  have hlt := hBc.lt
  replace hBc := Lib.hid hBc
  go_enter Tryz.func10, Tryz.ntmps10
  go_wp2_with fail
  refine bodyPost_ret (v := .tuple #[.agg #[.int .i64 0, .int .u64 0, .int .i64 0, .int .u64 0, .int .u64 0, .string ⟨#[]⟩], .bool false]) (by simp [results, Tryz.results10, go_sem]) rfl ⟨rfl, ?_⟩
  (repeat first | exact Below.refl _ _ | assumption | refine Below.drew ?_ | refine below_drewN ?_ _ | refine Below.more_ ?_ _ | refine Below.setCell ?_ (by first | exact Nat.le_refl _ | (simp; done) | (simp; omega)) _)
set_option maxRecDepth 100000 in
set_option maxHeartbeats 4000000 in
theorem viewAct6_any {w : World} {b : Nat} {c : PCfg} {acts pp pe sh blk code mark : Int} {pt : Bool} {key : ByteArray} {pv cv sv ov : Value} (hBc : Blk w b 97 #[.int .i64 c.cap, .int .i64 c.pins, .int .i64 c.shelves, .int .i64 c.queue, .int .i64 c.watchers, .int .u64 c.seed, .int .i64 6, .int .i64 acts, pv, .int .i64 pp, .int .u64 pe, .bool pt, .int .i64 sh, .int .u64 blk, .string key, cv, sv, .int .i64 code, .int .i64 0, .int .i64 0, .bool false, .string ⟨#[]⟩, ov, .int .i64 0, .slice none 0 0, .int .i64 mark, .int .u64 0]) :
    Calls Tryz.prog 10 #[.pointer (some ⟨b, 0, none⟩)] w fun e w' => e = .returned (.tuple #[.agg #[.int .i64 0, .int .u64 0, .int .i64 0, .int .u64 0, .int .u64 0, .string ⟨#[]⟩], .bool false]) ∧ Below w.heap.size w w' := by
  have c6 := hBc.cell 6
  have hlt := hBc.lt
  replace hBc := Lib.hid hBc
  go_enter Tryz.func10, Tryz.ntmps10
  go_wp2_with fail
  refine bodyPost_ret (v := .tuple #[.agg #[.int .i64 0, .int .u64 0, .int .i64 0, .int .u64 0, .int .u64 0, .string ⟨#[]⟩], .bool false]) (by simp [results, Tryz.results10, go_sem]) rfl ⟨rfl, ?_⟩
  (repeat first | exact Below.refl _ _ | assumption | refine Below.drew ?_ | refine below_drewN ?_ _ | refine Below.more_ ?_ _ | refine Below.setCell ?_ (by first | exact Nat.le_refl _ | (simp; done) | (simp; omega)) _)
set_option maxRecDepth 100000 in
set_option maxHeartbeats 4000000 in
theorem viewAct1_any {w : World} {b : Nat} {c : PCfg} {acts pp pe sh blk code mark : Int} {pt : Bool} {key : ByteArray} {cv sv ov : Value} {rb : Nat} {xk xb xc xo xn : Int} {xt : ByteArray} {mo : Bool} (hBc : Blk w b 97 #[.int .i64 c.cap, .int .i64 c.pins, .int .i64 c.shelves, .int .i64 c.queue, .int .i64 c.watchers, .int .u64 c.seed, .int .i64 1, .int .i64 acts, .pointer (some ⟨rb, 0, none⟩), .int .i64 pp, .int .u64 pe, .bool pt, .int .i64 sh, .int .u64 blk, .string key, cv, sv, .int .i64 code, .int .i64 0, .int .i64 0, .bool false, .string ⟨#[]⟩, ov, .int .i64 0, .slice none 0 0, .int .i64 mark, .int .u64 0])
    (hA : Calls Tryz.prog 38 #[.pointer (some ⟨rb, 0, none⟩)] (w.alloc (.cells #[.int .i64 0, .int .u64 0, .int .i64 0, .int .u64 0, .int .u64 0, .string ⟨#[]⟩] 31)) fun e w' => e = .returned (.tuple #[.agg #[.int .i64 xk, .int .u64 xb, .int .i64 xc, .int .u64 xo, .int .u64 xn, .string xt], .bool mo]) ∧ Below (w.alloc (.cells #[.int .i64 0, .int .u64 0, .int .i64 0, .int .u64 0, .int .u64 0, .string ⟨#[]⟩] 31)).heap.size (w.alloc (.cells #[.int .i64 0, .int .u64 0, .int .i64 0, .int .u64 0, .int .u64 0, .string ⟨#[]⟩] 31)) w') :
    Calls Tryz.prog 10 #[.pointer (some ⟨b, 0, none⟩)] w fun e w' => e = .returned (.tuple #[.agg #[.int .i64 xk, .int .u64 xb, .int .i64 xc, .int .u64 xo, .int .u64 xn, .string xt], .bool mo]) ∧ Below w.heap.size w w' := by
  have hz : Below w.heap.size w (w.alloc (.cells #[.int .i64 0, .int .u64 0, .int .i64 0, .int .u64 0, .int .u64 0, .string ⟨#[]⟩] 31)) := (Below.refl _ _).alloc (Nat.le_refl _) _
  have B0 := Blk.new w 31 #[.int .i64 0, .int .u64 0, .int .i64 0, .int .u64 0, .int .u64 0, .string ⟨#[]⟩]
  have c6 := hBc.cell 6
  have c8 := hBc.cell 8
  have hlt := hBc.lt
  replace hBc := Lib.hid hBc
  replace hz := Lib.hid hz
  replace B0 := Lib.hid B0
  replace hA := Lib.hid hA
  go_enter Tryz.func10, Tryz.ntmps10
  go_wp2_with fail
  refine (hA.out).mono ?_; rintro e w1 ⟨rfl, hb⟩
  have B1 := B0.out.below hb B0.out.lt
  have hb1 := nx hz.out (Nat.le_refl _) hb
  clear hb c6 c8
  have b1c0 := B1.cell 0
  have b1c1 := B1.cell 1
  have b1c2 := B1.cell 2
  have b1c3 := B1.cell 3
  have b1c4 := B1.cell 4
  have b1c5 := B1.cell 5
  have b1f0 := B1.frozen 0
  have b1f1 := B1.frozen 1
  have b1f2 := B1.frozen 2
  have b1f3 := B1.frozen 3
  have b1f4 := B1.frozen 4
  have b1f5 := B1.frozen 5
  replace B1 := Lib.hid B1
  replace hb1 := Lib.hid hb1
  go_wp2_with fail
  refine gen_world (α := fun W' => bodyPost _ _ _ _ _ W') (fun W' => Blk W' w.heap.size 31 #[.int .i64 xk, .int .u64 xb, .int .i64 xc, .int .u64 xo, .int .u64 xn, .string xt] ∧ Below w.heap.size w W') ⟨Blk.eq_cs ((((((B1.out.set_ 0 _).set_ 1 _).set_ 2 _).set_ 3 _).set_ 4 _).set_ 5 _) rfl, ?_⟩ ?_
  · repeat (refine Below.setCell ?_ (by exact Nat.le_refl _) _)
    exact hb1.out
  rintro W' ⟨g1, g2⟩
  have e0 := g1.cell 0
  have e1 := g1.cell 1
  have e2 := g1.cell 2
  have e3 := g1.cell 3
  have e4 := g1.cell 4
  have e5 := g1.cell 5
  exact bodyPost_ret (v := .tuple #[.agg #[.int .i64 xk, .int .u64 xb, .int .i64 xc, .int .u64 xo, .int .u64 xn, .string xt], .bool mo]) (by simp [results, Tryz.results10, go_sem, e0, e1, e2, e3, e4, e5]) rfl ⟨rfl, g2⟩
set_option maxRecDepth 100000 in
set_option maxHeartbeats 4000000 in
theorem viewAct4_any {w : World} {b : Nat} {c : PCfg} {acts pp pe sh blk code mark : Int} {pt : Bool} {key : ByteArray} {pv sv ov : Value} {rb : Nat} {xk xb xc xo xn : Int} {xt : ByteArray} {mo : Bool} (hBc : Blk w b 97 #[.int .i64 c.cap, .int .i64 c.pins, .int .i64 c.shelves, .int .i64 c.queue, .int .i64 c.watchers, .int .u64 c.seed, .int .i64 4, .int .i64 acts, pv, .int .i64 pp, .int .u64 pe, .bool pt, .int .i64 sh, .int .u64 blk, .string key, .pointer (some ⟨rb, 0, none⟩), sv, .int .i64 code, .int .i64 0, .int .i64 0, .bool false, .string ⟨#[]⟩, ov, .int .i64 0, .slice none 0 0, .int .i64 mark, .int .u64 0])
    (hA : Calls Tryz.prog 40 #[.pointer (some ⟨rb, 0, none⟩)] (w.alloc (.cells #[.int .i64 0, .int .u64 0, .int .i64 0, .int .u64 0, .int .u64 0, .string ⟨#[]⟩] 31)) fun e w' => e = .returned (.tuple #[.agg #[.int .i64 xk, .int .u64 xb, .int .i64 xc, .int .u64 xo, .int .u64 xn, .string xt], .bool mo]) ∧ Below (w.alloc (.cells #[.int .i64 0, .int .u64 0, .int .i64 0, .int .u64 0, .int .u64 0, .string ⟨#[]⟩] 31)).heap.size (w.alloc (.cells #[.int .i64 0, .int .u64 0, .int .i64 0, .int .u64 0, .int .u64 0, .string ⟨#[]⟩] 31)) w') :
    Calls Tryz.prog 10 #[.pointer (some ⟨b, 0, none⟩)] w fun e w' => e = .returned (.tuple #[.agg #[.int .i64 xk, .int .u64 xb, .int .i64 xc, .int .u64 xo, .int .u64 xn, .string xt], .bool mo]) ∧ Below w.heap.size w w' := by
  have hz : Below w.heap.size w (w.alloc (.cells #[.int .i64 0, .int .u64 0, .int .i64 0, .int .u64 0, .int .u64 0, .string ⟨#[]⟩] 31)) := (Below.refl _ _).alloc (Nat.le_refl _) _
  have B0 := Blk.new w 31 #[.int .i64 0, .int .u64 0, .int .i64 0, .int .u64 0, .int .u64 0, .string ⟨#[]⟩]
  have c6 := hBc.cell 6
  have c15 := hBc.cell 15
  have hlt := hBc.lt
  replace hBc := Lib.hid hBc
  replace hz := Lib.hid hz
  replace B0 := Lib.hid B0
  replace hA := Lib.hid hA
  go_enter Tryz.func10, Tryz.ntmps10
  go_wp2_with fail
  refine (hA.out).mono ?_; rintro e w1 ⟨rfl, hb⟩
  have B1 := B0.out.below hb B0.out.lt
  have hb1 := nx hz.out (Nat.le_refl _) hb
  clear hb c6 c15
  have b1c0 := B1.cell 0
  have b1c1 := B1.cell 1
  have b1c2 := B1.cell 2
  have b1c3 := B1.cell 3
  have b1c4 := B1.cell 4
  have b1c5 := B1.cell 5
  have b1f0 := B1.frozen 0
  have b1f1 := B1.frozen 1
  have b1f2 := B1.frozen 2
  have b1f3 := B1.frozen 3
  have b1f4 := B1.frozen 4
  have b1f5 := B1.frozen 5
  replace B1 := Lib.hid B1
  replace hb1 := Lib.hid hb1
  go_wp2_with fail
  refine gen_world (α := fun W' => bodyPost _ _ _ _ _ W') (fun W' => Blk W' w.heap.size 31 #[.int .i64 xk, .int .u64 xb, .int .i64 xc, .int .u64 xo, .int .u64 xn, .string xt] ∧ Below w.heap.size w W') ⟨Blk.eq_cs ((((((B1.out.set_ 0 _).set_ 1 _).set_ 2 _).set_ 3 _).set_ 4 _).set_ 5 _) rfl, ?_⟩ ?_
  · repeat (refine Below.setCell ?_ (by exact Nat.le_refl _) _)
    exact hb1.out
  rintro W' ⟨g1, g2⟩
  have e0 := g1.cell 0
  have e1 := g1.cell 1
  have e2 := g1.cell 2
  have e3 := g1.cell 3
  have e4 := g1.cell 4
  have e5 := g1.cell 5
  exact bodyPost_ret (v := .tuple #[.agg #[.int .i64 xk, .int .u64 xb, .int .i64 xc, .int .u64 xo, .int .u64 xn, .string xt], .bool mo]) (by simp [results, Tryz.results10, go_sem, e0, e1, e2, e3, e4, e5]) rfl ⟨rfl, g2⟩
set_option maxRecDepth 100000 in
set_option maxHeartbeats 4000000 in
theorem viewAct3_any {w : World} {b : Nat} {c : PCfg} {acts pp pe sh blk code mark : Int} {pt : Bool} {key : ByteArray} {pv cv sv ov : Value} (hBc : Blk w b 97 #[.int .i64 c.cap, .int .i64 c.pins, .int .i64 c.shelves, .int .i64 c.queue, .int .i64 c.watchers, .int .u64 c.seed, .int .i64 3, .int .i64 acts, pv, .int .i64 pp, .int .u64 pe, .bool pt, .int .i64 sh, .int .u64 blk, .string key, cv, sv, .int .i64 code, .int .i64 0, .int .i64 0, .bool false, .string ⟨#[]⟩, ov, .int .i64 0, .slice none 0 0, .int .i64 mark, .int .u64 0]) :
    Calls Tryz.prog 10 #[.pointer (some ⟨b, 0, none⟩)] w fun e w' => e = .returned (.tuple #[.agg #[.int .i64 6, .int .u64 blk, .int .i64 0, .int .u64 0, .int .u64 0, .string ⟨#[]⟩], .bool true]) ∧ Below w.heap.size w w' := by
  have c6 := hBc.cell 6
  have hlt := hBc.lt
  obtain ⟨W, hW⟩ : ∃ W, W = w.alloc (.cells #[.int .i64 0, .int .u64 0, .int .i64 0, .int .u64 0, .int .u64 0, .string ⟨#[]⟩] 31) := ⟨_, rfl⟩
  have hBw := hBc.alloc (.cells #[.int .i64 0, .int .u64 0, .int .i64 0, .int .u64 0, .int .u64 0, .string ⟨#[]⟩] 31)
  have B1 := Blk.new w 31 #[.int .i64 0, .int .u64 0, .int .i64 0, .int .u64 0, .int .u64 0, .string ⟨#[]⟩]
  have hb1 : Below w.heap.size w (w.alloc (.cells #[.int .i64 0, .int .u64 0, .int .i64 0, .int .u64 0, .int .u64 0, .string ⟨#[]⟩] 31)) := (Below.refl _ _).alloc (Nat.le_refl _) _
  rw [← hW] at hBw B1 hb1
  have v13 := hBw.cell 13
  have b1c0 := B1.cell 0
  have b1c1 := B1.cell 1
  have b1c2 := B1.cell 2
  have b1c3 := B1.cell 3
  have b1c4 := B1.cell 4
  have b1c5 := B1.cell 5
  have b1f0 := B1.frozen 0
  have b1f1 := B1.frozen 1
  have b1f2 := B1.frozen 2
  have b1f3 := B1.frozen 3
  have b1f4 := B1.frozen 4
  have b1f5 := B1.frozen 5
  have hltB := B1.lt
  replace hBc := Lib.hid hBc
  replace hBw := Lib.hid hBw
  replace B1 := Lib.hid B1
  replace hb1 := Lib.hid hb1
  go_enter Tryz.func10, Tryz.ntmps10
  go_upto_region 9 with fail
  rw [← hW]
  replace hW := Lib.hid hW
  clear c6
  go_wp2_with fail
  refine gen_world (α := fun W' => bodyPost _ _ _ _ _ W') (fun W' => Blk W' w.heap.size 31 #[.int .i64 6, .int .u64 blk, .int .i64 0, .int .u64 0, .int .u64 0, .string ⟨#[]⟩] ∧ Below w.heap.size w W') ⟨Blk.eq_cs ((((((B1.out.set_ 0 _).set_ 1 _).set_ 2 _).set_ 3 _).set_ 4 _).set_ 5 _) rfl, ?_⟩ ?_
  · repeat (refine Below.setCell ?_ (by exact Nat.le_refl _) _)
    exact hb1.out
  rintro W' ⟨g1, g2⟩
  have e0 := g1.cell 0
  have e1 := g1.cell 1
  have e2 := g1.cell 2
  have e3 := g1.cell 3
  have e4 := g1.cell 4
  have e5 := g1.cell 5
  exact bodyPost_ret (v := .tuple #[.agg #[.int .i64 6, .int .u64 blk, .int .i64 0, .int .u64 0, .int .u64 0, .string ⟨#[]⟩], .bool true]) (by simp [results, Tryz.results10, go_sem, e0, e1, e2, e3, e4, e5]) rfl ⟨rfl, g2⟩
set_option maxRecDepth 100000 in
set_option maxHeartbeats 4000000 in
theorem viewAct2_any {w : World} {b : Nat} {c : PCfg} {acts pp pe sh blk code mark : Int} {pt : Bool} {key : ByteArray} {pv cv sv ov : Value} (hBc : Blk w b 97 #[.int .i64 c.cap, .int .i64 c.pins, .int .i64 c.shelves, .int .i64 c.queue, .int .i64 c.watchers, .int .u64 c.seed, .int .i64 2, .int .i64 acts, pv, .int .i64 pp, .int .u64 pe, .bool pt, .int .i64 sh, .int .u64 blk, .string key, cv, sv, .int .i64 code, .int .i64 0, .int .i64 0, .bool false, .string ⟨#[]⟩, ov, .int .i64 0, .slice none 0 0, .int .i64 mark, .int .u64 0]) (hc : c.Right) (hsh : 0 ≤ sh ∧ sh < c.shelves) :
    Calls Tryz.prog 10 #[.pointer (some ⟨b, 0, none⟩)] w fun e w' => e = .returned (.tuple #[.agg #[.int .i64 1, .int .u64 1, .int .i64 (3 + c.pins + c.cap + 2 * sh), .int .u64 0, .int .u64 0, .string ⟨#[]⟩], .bool true]) ∧ Below w.heap.size w w' := by
  have hF := fun W => planKey_any c hc sh hsh W
  rw [show c.val = .agg #[.int .i64 c.cap, .int .i64 c.pins, .int .i64 c.shelves, .int .i64 c.queue, .int .i64 c.watchers, .int .u64 c.seed] from rfl] at hF
  have c6 := hBc.cell 6
  have hlt := hBc.lt
  obtain ⟨W, hW⟩ : ∃ W, W = w.alloc (.cells #[.int .i64 0, .int .u64 0, .int .i64 0, .int .u64 0, .int .u64 0, .string ⟨#[]⟩] 31) := ⟨_, rfl⟩
  have hBw := hBc.alloc (.cells #[.int .i64 0, .int .u64 0, .int .i64 0, .int .u64 0, .int .u64 0, .string ⟨#[]⟩] 31)
  have B0w := Blk.new w 31 #[.int .i64 0, .int .u64 0, .int .i64 0, .int .u64 0, .int .u64 0, .string ⟨#[]⟩]
  have hzw : Below w.heap.size w (w.alloc (.cells #[.int .i64 0, .int .u64 0, .int .i64 0, .int .u64 0, .int .u64 0, .string ⟨#[]⟩] 31)) := (Below.refl _ _).alloc (Nat.le_refl _) _
  rw [← hW] at hBw B0w hzw
  have v0 := hBw.cell 0
  have v1 := hBw.cell 1
  have v2 := hBw.cell 2
  have v3 := hBw.cell 3
  have v4 := hBw.cell 4
  have v5 := hBw.cell 5
  have v12 := hBw.cell 12
  clear hBw hc hsh
  replace hBc := Lib.hid hBc
  replace hF := Lib.hid hF
  replace B0w := Lib.hid B0w
  replace hzw := Lib.hid hzw
  go_enter Tryz.func10, Tryz.ntmps10
  go_wp2_with fail
  rw [← hW]
  replace hW := Lib.hid hW
  clear c6
  go_region_with (go_at_call 39; refine (hF.out _).mono ?_; rintro e w1 ⟨rfl, hb⟩; have B1 := Blk.below (w := W.drew) B0w.out hb B0w.out.lt; have hb1 := nx (b := W.drew) hzw.out.drew (Nat.le_refl _) hb; clear hb; have b1c0 := B1.cell 0; have b1c1 := B1.cell 1; have b1c2 := B1.cell 2; have b1c3 := B1.cell 3; have b1c4 := B1.cell 4; have b1c5 := B1.cell 5; have b1f0 := B1.frozen 0; have b1f1 := B1.frozen 1; have b1f2 := B1.frozen 2; have b1f3 := B1.frozen 3; have b1f4 := B1.frozen 4; have b1f5 := B1.frozen 5; replace B1 := Lib.hid B1; replace hb1 := Lib.hid hb1)
  all_goals
    clear v0 v1 v2 v3 v4 v5 v12
    go_wp2_with fail
    refine gen_world (α := fun W' => bodyPost _ _ _ _ _ W') (fun W' => Blk W' w.heap.size 31 #[.int .i64 1, .int .u64 1, .int .i64 (3 + c.pins + c.cap + 2 * sh), .int .u64 0, .int .u64 0, .string ⟨#[]⟩] ∧ Below w.heap.size w W') ⟨Blk.eq_cs ((((((B1.out.set_ 0 _).set_ 1 _).set_ 2 _).set_ 3 _).set_ 4 _).set_ 5 _) rfl, ?_⟩ ?_
    · repeat (refine Below.setCell ?_ (by exact Nat.le_refl _) _)
      exact hb1.out
    rintro W' ⟨g1, g2⟩
    have e0 := g1.cell 0
    have e1 := g1.cell 1
    have e2 := g1.cell 2
    have e3 := g1.cell 3
    have e4 := g1.cell 4
    have e5 := g1.cell 5
    exact bodyPost_ret (v := .tuple #[.agg #[.int .i64 1, .int .u64 1, .int .i64 (3 + c.pins + c.cap + 2 * sh), .int .u64 0, .int .u64 0, .string ⟨#[]⟩], .bool true]) (by simp [results, Tryz.results10, go_sem, e0, e1, e2, e3, e4, e5]) rfl ⟨rfl, g2⟩
set_option maxRecDepth 100000 in
set_option maxHeartbeats 4000000 in
theorem viewAct5_any {w : World} {b : Nat} {c : PCfg} {acts pp pe sh blk code mark : Int} {pt : Bool} {key : ByteArray} {pv cv sv ov : Value} (hBc : Blk w b 97 #[.int .i64 c.cap, .int .i64 c.pins, .int .i64 c.shelves, .int .i64 c.queue, .int .i64 c.watchers, .int .u64 c.seed, .int .i64 5, .int .i64 acts, pv, .int .i64 pp, .int .u64 pe, .bool pt, .int .i64 sh, .int .u64 blk, .string key, cv, sv, .int .i64 code, .int .i64 0, .int .i64 0, .bool false, .string ⟨#[]⟩, ov, .int .i64 0, .slice none 0 0, .int .i64 mark, .int .u64 0]) (hc : c.Right) (hpp : 0 ≤ pp ∧ pp < c.pins) :
    Calls Tryz.prog 10 #[.pointer (some ⟨b, 0, none⟩)] w fun e w' => e = .returned (.tuple #[.agg #[.int .i64 2, .int .u64 1, .int .i64 (3 + pp), .int .u64 0, .int .u64 0, .string ⟨#[]⟩], .bool true]) ∧ Below w.heap.size w w' := by
  have hF := fun W => free_any c hc pp hpp W
  rw [show c.val = .agg #[.int .i64 c.cap, .int .i64 c.pins, .int .i64 c.shelves, .int .i64 c.queue, .int .i64 c.watchers, .int .u64 c.seed] from rfl] at hF
  have c6 := hBc.cell 6
  have hlt := hBc.lt
  obtain ⟨W, hW⟩ : ∃ W, W = w.alloc (.cells #[.int .i64 0, .int .u64 0, .int .i64 0, .int .u64 0, .int .u64 0, .string ⟨#[]⟩] 31) := ⟨_, rfl⟩
  have hBw := hBc.alloc (.cells #[.int .i64 0, .int .u64 0, .int .i64 0, .int .u64 0, .int .u64 0, .string ⟨#[]⟩] 31)
  have B0w := Blk.new w 31 #[.int .i64 0, .int .u64 0, .int .i64 0, .int .u64 0, .int .u64 0, .string ⟨#[]⟩]
  have hzw : Below w.heap.size w (w.alloc (.cells #[.int .i64 0, .int .u64 0, .int .i64 0, .int .u64 0, .int .u64 0, .string ⟨#[]⟩] 31)) := (Below.refl _ _).alloc (Nat.le_refl _) _
  rw [← hW] at hBw B0w hzw
  have v0 := hBw.cell 0
  have v1 := hBw.cell 1
  have v2 := hBw.cell 2
  have v3 := hBw.cell 3
  have v4 := hBw.cell 4
  have v5 := hBw.cell 5
  have v9 := hBw.cell 9
  clear hBw hc hpp
  replace hBc := Lib.hid hBc
  replace hF := Lib.hid hF
  replace B0w := Lib.hid B0w
  replace hzw := Lib.hid hzw
  go_enter Tryz.func10, Tryz.ntmps10
  go_wp2_with fail
  rw [← hW]
  replace hW := Lib.hid hW
  clear c6
  go_region_with (go_at_call 41; refine (hF.out _).mono ?_; rintro e w1 ⟨rfl, hb⟩; have B1 := Blk.below (w := W.drew) B0w.out hb B0w.out.lt; have hb1 := nx (b := W.drew) hzw.out.drew (Nat.le_refl _) hb; clear hb; have b1c0 := B1.cell 0; have b1c1 := B1.cell 1; have b1c2 := B1.cell 2; have b1c3 := B1.cell 3; have b1c4 := B1.cell 4; have b1c5 := B1.cell 5; have b1f0 := B1.frozen 0; have b1f1 := B1.frozen 1; have b1f2 := B1.frozen 2; have b1f3 := B1.frozen 3; have b1f4 := B1.frozen 4; have b1f5 := B1.frozen 5; replace B1 := Lib.hid B1; replace hb1 := Lib.hid hb1)
  all_goals
    clear v0 v1 v2 v3 v4 v5 v9
    go_wp2_with fail
    refine gen_world (α := fun W' => bodyPost _ _ _ _ _ W') (fun W' => Blk W' w.heap.size 31 #[.int .i64 2, .int .u64 1, .int .i64 (3 + pp), .int .u64 0, .int .u64 0, .string ⟨#[]⟩] ∧ Below w.heap.size w W') ⟨Blk.eq_cs ((((((B1.out.set_ 0 _).set_ 1 _).set_ 2 _).set_ 3 _).set_ 4 _).set_ 5 _) rfl, ?_⟩ ?_
    · repeat (refine Below.setCell ?_ (by exact Nat.le_refl _) _)
      exact hb1.out
    rintro W' ⟨g1, g2⟩
    have e0 := g1.cell 0
    have e1 := g1.cell 1
    have e2 := g1.cell 2
    have e3 := g1.cell 3
    have e4 := g1.cell 4
    have e5 := g1.cell 5
    exact bodyPost_ret (v := .tuple #[.agg #[.int .i64 2, .int .u64 1, .int .i64 (3 + pp), .int .u64 0, .int .u64 0, .string ⟨#[]⟩], .bool true]) (by simp [results, Tryz.results10, go_sem, e0, e1, e2, e3, e4, e5]) rfl ⟨rfl, g2⟩
end Go.Proofs.YtmlnhjfdhjachaaGreat
