/-
  The chapter's example of acts (layer 18), where the table of powers lies. No condition.
-/
import Derived.Test.YtmifgjkikbgmiaaDoorActU
namespace Go.Proofs.YtmifgjkikbgmiaaDoor
set_option linter.unusedVariables false
open Go.ChangeShapes Go.WideShapes Go.ChangeAt Go.RowKit
open Go.ChangeMaps (setBlock)

def PAct.looks (x : PAct) : Bool := x.right && (x.kind == 1 || x.kind == 6 || x.kind == 10)
set_option maxRecDepth 100000 in
set_option maxHeartbeats 1000000 in
theorem looks_any (x : PAct) (hx : x.Ok) (w : World) : Calls Tryd.prog 12 #[x.val] w fun e w' => e = .returned (.bool x.looks) ∧ Below w.heap.size w w' := by
  have hR := fun W => right_any x W hx.text
  unfold PAct.looks
  obtain ⟨k, b, c, o, n, s⟩ := x
  have hv : PAct.val ⟨k, b, c, o, n, s⟩ = .agg #[.int .i64 k, .int .u64 b, .int .i64 c, .int .u64 o, .int .u64 n, .string s] := rfl
  rw [hv] at hR ⊢
  clear hv hx
  generalize PAct.right ⟨k, b, c, o, n, s⟩ = q at *
  have hW0 : Below w.heap.size w (w.alloc (.cells #[.int .i64 k, .int .u64 b, .int .i64 c, .int .u64 o, .int .u64 n, .string s] 24)) := (Below.refl _ _).alloc (Nat.le_refl _) _
  have B1 := Blk.new w 24 #[.int .i64 k, .int .u64 b, .int .i64 c, .int .u64 o, .int .u64 n, .string s]
  replace hR := Lib.hid hR
  replace hW0 := Lib.hid hW0
  replace B1 := Lib.hid B1
  cases q with
  | false =>
    go_enter Tryd.func12, Tryd.ntmps12
    go_wp2_with fail
    refine (hR.out _).mono ?_; rintro e w1 ⟨rfl, hb1⟩
    have hB1 := nx hW0.out (Nat.le_refl _) hb1
    replace hB1 := Lib.hid hB1
    clear hb1
    go_wp2_with fail
    go_ret
    exact ⟨rfl, hB1.out⟩
  | true =>
    have hcs : (k = 1) ∨ (k = 6) ∨ (k = 10) ∨ (¬ k = 1 ∧ ¬ k = 6 ∧ ¬ k = 10) := by omega
    rcases hcs with rfl | rfl | rfl | ⟨e1, e2, e3⟩
    case' inr.inr.inr =>
      have d1 : (k == 1) = false := by simpa using e1
      have d2 : (k == 6) = false := by simpa using e2
      have d3 : (k == 10) = false := by simpa using e3
      rw [d1, d2, d3]
      clear e1 e2 e3
    all_goals
      go_enter Tryd.func12, Tryd.ntmps12
      go_wp2_with fail
      refine (hR.out _).mono ?_; rintro e w1 ⟨rfl, hb1⟩
      have hB1 := nx hW0.out (Nat.le_refl _) hb1
      have c0 := (B1.out.below hb1 (by simp)).cell 0
      replace hB1 := Lib.hid hB1
      clear hb1
      go_wp2_with fail
      go_ret
      exact ⟨rfl, hB1.out⟩
structure Own (w0 : World) (hb : Nat) (S : PHeap) (F : Nat → Prop) (w : World) : Prop where
  heap : HeapIn w hb S F
  new : ∀ k, F k → w0.heap.size ≤ k
  below : Below w0.heap.size w0 w
theorem Own.of_sess {w0 w : World} {hb : Nat} {S : PHeap} (s : Sess w0 hb S w) : ∃ F, Own w0 hb S F w := by
  obtain ⟨F, h1, h2, h3⟩ := s
  exact ⟨F, h1, h2, h3⟩
theorem Own.keep {w0 w w' : World} {hb : Nat} {S : PHeap} {F : Nat → Prop} (s : Own w0 hb S F w) (hb1 : Below w.heap.size w w') : Own w0 hb S F w' := ⟨s.heap.below hb1, s.new, Below.next_ s.below hb1⟩
theorem Own.alloc {w0 w : World} {hb : Nat} {S : PHeap} {F : Nat → Prop} (s : Own w0 hb S F w) (o : Obj) : Own w0 hb S F (w.alloc o) := s.keep (Below.more_ (Below.refl _ _) o)
theorem Own.turned {w0 w w' : World} {hb : Nat} {S S' : PHeap} {F : Nat → Prop} (s : Own w0 hb S F w) (t : Turned F hb S' w w') : Own w0 hb S' (nw F w w') w' :=
  ⟨t.1, fun k hk => by
    rcases hk with hk | hk
    · exact s.new k hk
    · exact Nat.le_trans s.below.size hk.1, s.below.trans (t.2.below s.new s.below.size)⟩
/-- A heap of the call's own, and blocks that it leaves alone. -/
structure OwnB (w0 : World) (hb : Nat) (S : PHeap) (F : Nat → Prop) (K : List (Nat × Obj)) (W : World) : Prop where
  own : Own w0 hb S F W
  keep : ∀ p ∈ K, W.heap[p.1]? = some p.2 ∧ ¬ F p.1
section
variable {w0 W W' : World} {hb : Nat} {S S' : PHeap} {F : Nat → Prop} {K : List (Nat × Obj)}
theorem OwnB.lt (o : OwnB w0 hb S F K W) {p : Nat × Obj} (hp : p ∈ K) : p.1 < W.heap.size := by
  have := (o.keep p hp).1
  rcases Nat.lt_or_ge p.1 W.heap.size with h | h
  · exact h
  · rw [Array.getElem?_eq_none h] at this; cases this
theorem OwnB.below (o : OwnB w0 hb S F K W) (hb1 : Below W.heap.size W W') : OwnB w0 hb S F K W' :=
  ⟨o.own.keep hb1, fun p hp => ⟨(hb1.block _ (o.lt hp)).trans (o.keep p hp).1, (o.keep p hp).2⟩⟩
theorem OwnB.turned (o : OwnB w0 hb S F K W) (t : Turned F hb S' W W') : OwnB w0 hb S' (nw F W W') K W' :=
  ⟨o.own.turned t, fun p hp => ⟨(t.2.block _ (o.lt hp) (o.keep p hp).2).trans (o.keep p hp).1, fun h => h.elim (o.keep p hp).2 fun h1 => by have := o.lt hp; omega⟩⟩
theorem OwnB.alloc (o : OwnB w0 hb S F K W) (ob : Obj) : OwnB w0 hb S F ((W.heap.size, ob) :: K) (W.alloc ob) :=
  ⟨o.own.alloc ob, fun p hp => by
    rcases List.mem_cons.1 hp with rfl | hp
    · exact ⟨heap_alloc_new W ob, fun h => by have := o.own.heap.own _ h; omega⟩
    · exact ((o.below (Below.more_ (Below.refl _ _) ob)).keep p hp)⟩
theorem OwnB.doing (o : OwnB w0 hb S F K W) (x : PAct) (hx : x.Ok) (hf : S.faults < 9223372036854775807) (hla : S.last < 9223372036854775807) :
    Calls Tryd.prog 10 #[.pointer (some ⟨hb, 0, none⟩), x.val] W fun e W' => ∃ r, e = .returned (S.act x r).1.val ∧ ∃ F', OwnB w0 hb (S.act x r).2 F' K W' :=
  (do_any o.own.heap x hx hf hla).mono fun e W' ⟨r, he, t⟩ => ⟨r, he, _, o.turned t⟩
theorem OwnB.does (o : OwnB w0 hb S F K W) (x : PAct) (hx : x.Ok) (hf : S.faults < 9223372036854775807) (hla : S.last < 9223372036854775807) (g : PGot) (T : Nat → PHeap) (hact : ∀ r, S.act x r = (g, T r)) :
    Calls Tryd.prog 10 #[.pointer (some ⟨hb, 0, none⟩), x.val] W fun e W' => ∃ r F', e = .returned g.val ∧ OwnB w0 hb (T r) F' K W' :=
  (o.doing x hx hf hla).mono fun e W' ⟨r, he, F', o'⟩ => ⟨r, F', by rw [he, hact r], by rw [hact r] at o'; exact o'⟩
theorem OwnB.ready (o : OwnB w0 hb S F K W) (x : PAct) (hx : x.Ok) (hf : S.faults < 9223372036854775807) :
    Calls Tryd.prog 11 #[.pointer (some ⟨hb, 0, none⟩), x.val] W fun e W' => e = .returned (.bool (S.ready x)) ∧ ∃ F', OwnB w0 hb S F' K W' :=
  (ready_any o.own.heap x hx hf).mono fun e W' ⟨he, t⟩ => ⟨he, _, o.turned t⟩
theorem OwnB.make (o : OwnB w0 hb S F K W) (n : Nat) (hn : n ≤ 256) (s : ByteArray) (hl : S.last < 9223372036854775807) :
    Calls Tryd.prog 9 #[.pointer (some ⟨hb, 0, none⟩), .int .i64 n, .string s] W fun e W' => e = .returned (.int .u64 (S.last + 1)) ∧ ∃ r F', OwnB w0 hb { S with blocks := S.blocks ++ [⟨S.last + 1, r, List.replicate n 0, s⟩], last := S.last + 1 } F' K W' :=
  (make_any o.own.heap n hn s hl).mono fun e W' ⟨he, r, t⟩ => ⟨he, r, _, o.turned t⟩
end
theorem ok0 (k b c o n : Int) (s : ByteArray) (hk : 0 ≤ k ∧ k ≤ 10) (hb : 0 ≤ b ∧ b ≤ 10) (hc : 0 ≤ c ∧ c ≤ 10) (ho : 0 ≤ o ∧ o ≤ 10) (hn : 0 ≤ n ∧ n ≤ 10) (hs : s.size ≤ 10) : PAct.Ok ⟨k, b, c, o, n, s⟩ :=
  ⟨by show _ ≤ k ∧ k ≤ _; omega, by show _ ≤ b ∧ b ≤ _; omega, by show _ ≤ c ∧ c ≤ _; omega, by show _ ≤ o ∧ o ≤ _; omega, by show _ ≤ n ∧ n ≤ _; omega, by show s.size ≤ _; omega⟩
set_option maxRecDepth 100000 in
set_option maxHeartbeats 4000000 in
theorem awake18 (w : World) (htab : PTb w) : Calls Tryd.prog 4 #[] w fun e w' => e = .returned (.bool true) ∧ Below w.heap.size w w' := by
  have htabs := fun W (h : Below w.heap.size w W) => htab.below h
  replace htabs := Lib.hid htabs
  clear htab
  go_enter Tryd.func4, Tryd.ntmps4
  go_wp2_with fail
  refine (new_sess _).mono ?_; rintro e w1 ⟨hb, rfl, s1⟩
  obtain ⟨F1, o1⟩ := Own.of_sess s1
  have o1 : OwnB w hb ⟨[], 0, false, 0⟩ F1 [] w1 := ⟨o1, fun p hp => by cases hp⟩
  clear s1
  have hM := o1.make 1 (by decide) ⟨#[]⟩ (by decide)
  replace hM := Lib.hid hM
  replace o1 := Lib.hid o1
  go_wp2_with fail
  refine (hM.out).mono ?_; rintro e w2 ⟨rfl, r2, F2, o2⟩
  have o2 : OwnB w hb ⟨[⟨1, r2, [0], ⟨#[]⟩⟩], 1, false, 0⟩ F2 [] w2 := o2
  clear hM o1
  have hD : Calls Tryd.prog 10 #[.pointer (some ⟨hb, 0, none⟩), .agg #[.int .i64 5, .int .u64 0, .int .i64 3, .int .u64 0, .int .u64 0, .string ⟨#[116]⟩]] w2 fun e W' => ∃ r F', e = .returned (.agg #[.int .u64 2, .string ⟨#[]⟩]) ∧ OwnB w hb (⟨[⟨1, r2, [0], ⟨#[]⟩⟩, ⟨2, r, [0, 0, 0], ⟨#[116]⟩⟩], 2, false, 0⟩) F' [] W' :=
    o2.does ⟨5, 0, 3, 0, 0, ⟨#[116]⟩⟩ (ok0 5 0 3 0 0 ⟨#[116]⟩ (by decide) (by decide) (by decide) (by decide) (by decide) (by decide)) (show (0 : Int) < 9223372036854775807 by decide) (show (1 : Int) < 9223372036854775807 by decide) ⟨2, ⟨#[]⟩⟩ (fun r => ⟨[⟨1, r2, [0], ⟨#[]⟩⟩, ⟨2, r, [0, 0, 0], ⟨#[116]⟩⟩], 2, false, 0⟩) (fun r => by kernel_rfl)
  replace hD := Lib.hid hD
  replace o2 := Lib.hid o2
  go_wp2_with fail
  refine (hD.out).mono ?_; rintro e w3 ⟨r3, F3, rfl, o3⟩
  clear hD o2
  have o4 := (o3.alloc (Obj.cells #[.int .u64 2, .string ⟨#[]⟩] 33)).alloc (Obj.cells #[.int .i64 2, .int .u64 2, .int .i64 0, .int .u64 0, .int .u64 5, .string ⟨#[]⟩] 24)
  simp only [World.size_alloc] at o4
  clear o3
  have hD : Calls Tryd.prog 10 #[.pointer (some ⟨hb, 0, none⟩), .agg #[.int .i64 2, .int .u64 2, .int .i64 0, .int .u64 0, .int .u64 5, .string ⟨#[]⟩]] ((w3.alloc (Obj.cells #[.int .u64 2, .string ⟨#[]⟩] 33)).alloc (Obj.cells #[.int .i64 2, .int .u64 2, .int .i64 0, .int .u64 0, .int .u64 5, .string ⟨#[]⟩] 24)) fun e W' => ∃ r F', e = .returned (.agg #[.int .u64 0, .string ⟨#[]⟩]) ∧ OwnB w hb (⟨[⟨1, r2, [0], ⟨#[]⟩⟩, ⟨2, r3, [5, 0, 0], ⟨#[116]⟩⟩], 2, false, 0⟩) F' [(w3.heap.size + 1, Obj.cells #[.int .i64 2, .int .u64 2, .int .i64 0, .int .u64 0, .int .u64 5, .string ⟨#[]⟩] 24), (w3.heap.size, Obj.cells #[.int .u64 2, .string ⟨#[]⟩] 33)] W' :=
    o4.does ⟨2, 2, 0, 0, 5, ⟨#[]⟩⟩ (ok0 2 2 0 0 5 ⟨#[]⟩ (by decide) (by decide) (by decide) (by decide) (by decide) (by decide)) (show (0 : Int) < 9223372036854775807 by decide) (show (2 : Int) < 9223372036854775807 by decide) ⟨0, ⟨#[]⟩⟩ (fun r => ⟨[⟨1, r2, [0], ⟨#[]⟩⟩, ⟨2, r3, [5, 0, 0], ⟨#[116]⟩⟩], 2, false, 0⟩) (fun r => by kernel_rfl)
  replace hD := Lib.hid hD
  replace o4 := Lib.hid o4
  go_wp2_with fail
  refine (hD.out).mono ?_; rintro e w4 ⟨r4, F4, rfl, o5⟩
  clear hD o4
  have hD : Calls Tryd.prog 10 #[.pointer (some ⟨hb, 0, none⟩), .agg #[.int .i64 1, .int .u64 2, .int .i64 0, .int .u64 0, .int .u64 0, .string ⟨#[]⟩]] w4 fun e W' => ∃ r F', e = .returned (.agg #[.int .u64 5, .string ⟨#[]⟩]) ∧ OwnB w hb (⟨[⟨1, r2, [0], ⟨#[]⟩⟩, ⟨2, r3, [5, 0, 0], ⟨#[116]⟩⟩], 2, false, 0⟩) F' [(w3.heap.size + 1, Obj.cells #[.int .i64 2, .int .u64 2, .int .i64 0, .int .u64 0, .int .u64 5, .string ⟨#[]⟩] 24), (w3.heap.size, Obj.cells #[.int .u64 2, .string ⟨#[]⟩] 33)] W' :=
    o5.does ⟨1, 2, 0, 0, 0, ⟨#[]⟩⟩ (ok0 1 2 0 0 0 ⟨#[]⟩ (by decide) (by decide) (by decide) (by decide) (by decide) (by decide)) (show (0 : Int) < 9223372036854775807 by decide) (show (2 : Int) < 9223372036854775807 by decide) ⟨5, ⟨#[]⟩⟩ (fun r => ⟨[⟨1, r2, [0], ⟨#[]⟩⟩, ⟨2, r3, [5, 0, 0], ⟨#[116]⟩⟩], 2, false, 0⟩) (fun r => by kernel_rfl)
  replace hD := Lib.hid hD
  replace o5 := Lib.hid o5
  go_wp2_with fail
  refine (hD.out).mono ?_; rintro e w5 ⟨r5, F5, rfl, o6⟩
  clear hD o5
  have o7 := o6.alloc (Obj.cells #[.int .u64 5, .string ⟨#[]⟩] 33)
  clear o6
  have hD : Calls Tryd.prog 10 #[.pointer (some ⟨hb, 0, none⟩), .agg #[.int .i64 6, .int .u64 2, .int .i64 0, .int .u64 0, .int .u64 0, .string ⟨#[]⟩]] (w5.alloc (Obj.cells #[.int .u64 5, .string ⟨#[]⟩] 33)) fun e W' => ∃ r F', e = .returned (.agg #[.int .u64 0, .string ⟨#[116]⟩]) ∧ OwnB w hb (⟨[⟨1, r2, [0], ⟨#[]⟩⟩, ⟨2, r3, [5, 0, 0], ⟨#[116]⟩⟩], 2, false, 0⟩) F' ((w5.heap.size, Obj.cells #[.int .u64 5, .string ⟨#[]⟩] 33) :: [(w3.heap.size + 1, Obj.cells #[.int .i64 2, .int .u64 2, .int .i64 0, .int .u64 0, .int .u64 5, .string ⟨#[]⟩] 24), (w3.heap.size, Obj.cells #[.int .u64 2, .string ⟨#[]⟩] 33)]) W' :=
    o7.does ⟨6, 2, 0, 0, 0, ⟨#[]⟩⟩ (ok0 6 2 0 0 0 ⟨#[]⟩ (by decide) (by decide) (by decide) (by decide) (by decide) (by decide)) (show (0 : Int) < 9223372036854775807 by decide) (show (2 : Int) < 9223372036854775807 by decide) ⟨0, ⟨#[116]⟩⟩ (fun r => ⟨[⟨1, r2, [0], ⟨#[]⟩⟩, ⟨2, r3, [5, 0, 0], ⟨#[116]⟩⟩], 2, false, 0⟩) (fun r => by kernel_rfl)
  replace hD := Lib.hid hD
  replace o7 := Lib.hid o7
  go_wp2_with fail
  refine (hD.out).mono ?_; rintro e w6 ⟨r6, F6, rfl, o8⟩
  clear hD o7
  have o9 := o8.alloc (Obj.cells #[.int .u64 0, .string ⟨#[116]⟩] 33)
  clear o8
  have hT := text_ex (htabs.out _ o9.own.below)
  generalize hn5 : w5.heap.size = n5 at *
  generalize hn3 : w3.heap.size = n3 at *
  replace hn5 := Lib.hid hn5
  replace hn3 := Lib.hid hn3
  have pB : Blk (w6.alloc (Obj.cells #[.int .u64 0, .string ⟨#[116]⟩] 33)) n3 33 #[.int .u64 2, .string ⟨#[]⟩] := (o9.keep (n3, Obj.cells #[.int .u64 2, .string ⟨#[]⟩] 33) (by simp)).1
  have pX : Blk (w6.alloc (Obj.cells #[.int .u64 0, .string ⟨#[116]⟩] 33)) (n3 + 1) 24 #[.int .i64 2, .int .u64 2, .int .i64 0, .int .u64 0, .int .u64 5, .string ⟨#[]⟩] := (o9.keep (n3 + 1, Obj.cells #[.int .i64 2, .int .u64 2, .int .i64 0, .int .u64 0, .int .u64 5, .string ⟨#[]⟩] 24) (by simp)).1
  have pG : Blk (w6.alloc (Obj.cells #[.int .u64 0, .string ⟨#[116]⟩] 33)) n5 33 #[.int .u64 5, .string ⟨#[]⟩] := (o9.keep (n5, Obj.cells #[.int .u64 5, .string ⟨#[]⟩] 33) (by simp)).1
  have pS : Blk (w6.alloc (Obj.cells #[.int .u64 0, .string ⟨#[116]⟩] 33)) w6.heap.size 33 #[.int .u64 0, .string ⟨#[116]⟩] := (o9.keep (w6.heap.size, Obj.cells #[.int .u64 0, .string ⟨#[116]⟩] 33) (by simp)).1
  have pb0 := pB.cell 0
  have pg0 := pG.cell 0
  have ps1 := pS.cell 1
  have px0 := pX.cell 0
  have px1 := pX.cell 1
  have px2 := pX.cell 2
  have px3 := pX.cell 3
  have px4 := pX.cell 4
  have px5 := pX.cell 5
  clear pB pX pG pS
  replace hT := Lib.hid hT
  replace o9 := Lib.hid o9
  go_wp2_with fail
  refine (hT.out).mono ?_; rintro e w8 ⟨rfl, hb8⟩
  have oA := o9.out.below hb8
  clear hb8 o9 hT pb0 pg0 ps1 px0 px1 px2 px3 px4 px5
  have qB : Blk w8 n3 33 #[.int .u64 2, .string ⟨#[]⟩] := (oA.keep (n3, Obj.cells #[.int .u64 2, .string ⟨#[]⟩] 33) (by simp)).1
  have qX : Blk w8 (n3 + 1) 24 #[.int .i64 2, .int .u64 2, .int .i64 0, .int .u64 0, .int .u64 5, .string ⟨#[]⟩] := (oA.keep (n3 + 1, Obj.cells #[.int .i64 2, .int .u64 2, .int .i64 0, .int .u64 0, .int .u64 5, .string ⟨#[]⟩] 24) (by simp)).1
  have qG : Blk w8 n5 33 #[.int .u64 5, .string ⟨#[]⟩] := (oA.keep (n5, Obj.cells #[.int .u64 5, .string ⟨#[]⟩] 33) (by simp)).1
  have qS : Blk w8 w6.heap.size 33 #[.int .u64 0, .string ⟨#[116]⟩] := (oA.keep (w6.heap.size, Obj.cells #[.int .u64 0, .string ⟨#[116]⟩] 33) (by simp)).1
  have qb0 := qB.cell 0
  have qg0 := qG.cell 0
  have qs1 := qS.cell 1
  have qx0 := qX.cell 0
  have qx1 := qX.cell 1
  have qx2 := qX.cell 2
  have qx3 := qX.cell 3
  have qx4 := qX.cell 4
  have qx5 := qX.cell 5
  clear qB qX qG qS
  have hR := right_any ⟨2, 2, 0, 0, 5, ⟨#[]⟩⟩ w8 (by decide)
  rw [show PAct.right ⟨2, 2, 0, 0, 5, ⟨#[]⟩⟩ = true from by kernel_rfl, show PAct.val ⟨2, 2, 0, 0, 5, ⟨#[]⟩⟩ = .agg #[.int .i64 2, .int .u64 2, .int .i64 0, .int .u64 0, .int .u64 5, .string ⟨#[]⟩] from rfl] at hR
  replace hR := Lib.hid hR
  replace oA := Lib.hid oA
  go_wp2_with fail
  refine (hR.out).mono ?_; rintro e w9 ⟨rfl, hb9⟩
  have oB := oA.out.below hb9
  clear hb9 oA hR qb0 qg0 qs1 qx0 qx1 qx2 qx3 qx4 qx5
  have hY := oB.ready ⟨8, 0, 0, 0, 0, ⟨#[]⟩⟩ (ok0 8 0 0 0 0 ⟨#[]⟩ (by decide) (by decide) (by decide) (by decide) (by decide) (by decide)) (show (0 : Int) < 9223372036854775807 by decide)
  rw [show PHeap.ready ⟨[⟨1, r2, [0], ⟨#[]⟩⟩, ⟨2, r3, [5, 0, 0], ⟨#[116]⟩⟩], 2, false, 0⟩ ⟨8, 0, 0, 0, 0, ⟨#[]⟩⟩ = true from by kernel_rfl, show PAct.val ⟨8, 0, 0, 0, 0, ⟨#[]⟩⟩ = .agg #[.int .i64 8, .int .u64 0, .int .i64 0, .int .u64 0, .int .u64 0, .string ⟨#[]⟩] from rfl] at hY
  replace hY := Lib.hid hY
  replace oB := Lib.hid oB
  go_wp2_with fail
  refine (hY.out).mono ?_; rintro e w10 ⟨rfl, F10, oC⟩
  clear hY oB
  have hL := looks_any ⟨1, 0, 0, 0, 0, ⟨#[]⟩⟩ (ok0 1 0 0 0 0 ⟨#[]⟩ (by decide) (by decide) (by decide) (by decide) (by decide) (by decide)) w10
  rw [show PAct.looks ⟨1, 0, 0, 0, 0, ⟨#[]⟩⟩ = true from by kernel_rfl, show PAct.val ⟨1, 0, 0, 0, 0, ⟨#[]⟩⟩ = .agg #[.int .i64 1, .int .u64 0, .int .i64 0, .int .u64 0, .int .u64 0, .string ⟨#[]⟩] from rfl] at hL
  replace hL := Lib.hid hL
  replace oC := Lib.hid oC
  go_wp2_with fail
  refine (hL.out).mono ?_; rintro e w11 ⟨rfl, hb11⟩
  have oD := (oC.out.below hb11).own.below
  clear hb11 oC hL
  replace oD := Lib.hid oD
  go_wp2_with fail
  go_ret
  exact ⟨rfl, oD.out⟩
end Go.Proofs.YtmifgjkikbgmiaaDoor
