/-
  act.Do on a heap. No condition.
-/
import Derived.Test.YtpldnbdcpihjcaaDo
import Derived.Test.YtpldnbdcpihjcaaFr
namespace Go.Proofs.Ytpldnbdcpihjcaa
set_option linter.unusedVariables false
open Go.ChangeShapes Go.WideShapes Go.ChangeAt Go.RowKit
open Go.ChangeMaps (setBlock)

/-- The heap has turned in a call within; what the caller itself has made meanwhile may turn besides. -/
theorem do_end {w w1 w2 w3 : World} {F : Nat → Prop} {hb : Nat} {S' : PHeap} (hF : In F w) (hb1 : Below w.heap.size w w1) (t : Turned F hb S' w1 w2) (hc : Chg (fun k => w.heap.size ≤ k ∧ k < w1.heap.size) w2 w3) : Turned F hb S' w w3 := by
  have s1 := hb1.size
  have s2 := t.2.size
  have s3 := hc.size
  have hch : Chg F w w2 := (Chg.of_below hb1 F).trans t.2 fun _ h => .inl h
  refine ⟨(t.1.keep hc.size fun k hk => hc.block k (t.1.own k hk) ?_).mono (hF.nw (by omega)) ?_, hch.trans hc fun k hk => .inr hk.1⟩
  · rintro ⟨h1, h2⟩
    rcases hk with hk | hk
    · have := hF k hk; omega
    · omega
  · rintro k (hk | hk)
    · exact .inl hk
    · exact .inr ⟨by omega, by omega⟩
theorem ret_got {a b : Int} {s t : ByteArray} (h : a = b) (k : s = t) : Ending.returned (.agg #[.int .u64 a, .string s]) = .returned (.agg #[.int .u64 b, .string t]) := by rw [h, k]

section
variable {w : World} {hb : Nat} {S : PHeap} {F : Nat → Prop} (h : HeapIn w hb S F)
include h
def DoPost (F : Nat → Prop) (hb : Nat) (S : PHeap) (x : PAct) (w : World) (e : Ending) (w' : World) : Prop := ∃ r, e = .returned (S.act x r).1.val ∧ Turned F hb (S.act x r).2 w w'
set_option maxRecDepth 100000 in
set_option maxHeartbeats 1000000 in
theorem do_no (x : PAct) (hx : x.Ok) (hr : x.right = false) :
    Calls Try.prog 38 #[.pointer (some ⟨hb, 0, none⟩), x.val] w (DoPost F hb S x w) := by
  have hR := fun W => right_any x W hx.text
  rw [hr] at hR
  have hp : ∀ (e : Ending) (w' : World), e = .returned (.agg #[.int .u64 0, .string ByteArray.empty]) → Below w.heap.size w w' → DoPost F hb S x w e w' := by
    rintro e w' rfl hb'
    refine ⟨0, ?_, ?_⟩
    · unfold PHeap.act; rw [if_pos hr]; rfl
    · unfold PHeap.act; rw [if_pos hr]; exact Turned.still h hb'
  replace hR := Lib.hid hR
  replace hp := Lib.hid hp
  clear hr h
  have hv : x.val = .agg #[.int .i64 x.kind, .int .u64 x.block, .int .i64 x.cell, .int .u64 x.old, .int .u64 x.new, .string x.text] := rfl
  rw [hv] at hR ⊢
  clear hv
  generalize x.kind = k at *
  generalize x.block = b at *
  generalize x.cell = c at *
  generalize x.old = o at *
  generalize x.new = n at *
  generalize x.text = s at *
  have B1 := Blk.alloc (Blk.alloc (Blk.new w 31 #[.int .i64 k, .int .u64 b, .int .i64 c, .int .u64 o, .int .u64 n, .string s]) (.cells #[.int .u64 0, .string ⟨#[]⟩] 45)) (.cells #[.int .u64 0, .string ⟨#[]⟩] 45)
  have B2 := Blk.alloc (Blk.new (w.alloc (.cells #[.int .i64 k, .int .u64 b, .int .i64 c, .int .u64 o, .int .u64 n, .string s] 31)) 45 #[.int .u64 0, .string ⟨#[]⟩]) (.cells #[.int .u64 0, .string ⟨#[]⟩] 45)
  have B3 := Blk.new ((w.alloc (.cells #[.int .i64 k, .int .u64 b, .int .i64 c, .int .u64 o, .int .u64 n, .string s] 31)).alloc (.cells #[.int .u64 0, .string ⟨#[]⟩] 45)) 45 #[.int .u64 0, .string ⟨#[]⟩]
  simp only [World.size_alloc] at B2 B3
  replace B1 := Lib.hid B1
  replace B2 := Lib.hid B2
  replace B3 := Lib.hid B3
  go_enter Try.func38, Try.ntmps38
  go_wp2_with fail
  refine (hR.out _).mono ?_; rintro e w1 ⟨rfl, hb1⟩
  have g2 := (B2.out.below hb1 (by simp))
  have g3 := (B3.out.below hb1 (by simp))
  have c20 := g2.cell 0
  have c21 := g2.cell 1
  have f20 := g2.frozen 0
  have f21 := g2.frozen 1
  have c30 := g3.cell 0
  have c31 := g3.cell 1
  have hs := hb1.size
  simp only [World.size_alloc] at hs
  clear g2 g3
  have hB1 : Below w.heap.size w w1 := nx ((((Below.refl _ _).alloc (Nat.le_refl _) _).alloc (by simp) _).alloc (by simp; omega) _) (Nat.le_refl _) hb1
  clear hb1
  go_wp2_with fail
  refine bodyPost_ret (v := .agg #[.int .u64 0, .string ByteArray.empty]) (by simp [results, Try.results38, go_sem, c20, c21]; try rfl) rfl (hp.out _ _ rfl ?_)
  (repeat first | exact Below.refl _ _ | assumption | refine Below.drew ?_ | refine below_drewN ?_ _ | refine Below.more_ ?_ _ | refine Below.setCell ?_ (by first | exact Nat.le_refl _ | (simp; done) | (simp; omega)) _)
theorem lockAs_all (l : Bool) (hl : S.locked = l) : Calls Try.prog 82 #[.pointer (some ⟨hb, 0, none⟩)] w fun e w' => e = .returned (.bool (!l)) ∧ Turned F hb S.lock w w' := by
  rw [← hl]
  exact lock_all h
theorem wordsEx_all (b : Int) (hb0 : 0 ≤ b) (hf : S.faults < 9223372036854775807) :
    Calls Try.prog 80 #[.pointer (some ⟨hb, 0, none⟩), .int .u64 b] w fun e w' => ∃ cd, e = .returned (.tuple #[.string (S.words b).1, .int .i64 cd]) ∧ Turned F hb (S.words b).2 w w' :=
  (words_all h b hb0 hf).mono fun _ _ ⟨he, ht⟩ => ⟨_, he, ht⟩
theorem dropEx_all (b : Int) (hb0 : 0 ≤ b) (hf : S.faults < 9223372036854775807) :
    Calls Try.prog 81 #[.pointer (some ⟨hb, 0, none⟩), .int .u64 b] w fun e w' => ∃ cd, e = .returned (.int .i64 cd) ∧ Turned F hb (S.drop b) w w' :=
  (drop_all h b hb0 hf).mono fun _ _ ⟨he, ht⟩ => ⟨_, he, ht⟩
set_option maxRecDepth 100000 in
set_option maxHeartbeats 1000000 in
theorem do_1 (b c o n : Int) (s : ByteArray) (hr : PAct.right ⟨1, b, c, o, n, s⟩ = true) (hsz : s.size ≤ 9223372036854775807) (hb0 : 0 ≤ b) (hn0 : 0 ≤ n ∧ n ≤ 18446744073709551615) (hf : S.faults < 9223372036854775807) (hla : S.last < 9223372036854775807) :
    Calls Try.prog 38 #[.pointer (some ⟨hb, 0, none⟩), .agg #[.int .i64 1, .int .u64 b, .int .i64 c, .int .u64 o, .int .u64 n, .string s]] w (DoPost F hb S ⟨1, b, c, o, n, s⟩ w) := by
  have hR := fun W => right_any ⟨1, b, c, o, n, s⟩ W hsz
  rw [hr] at hR
  have hact : ∀ r, S.act ⟨1, b, c, o, n, s⟩ r = (⟨(S.load b c).1, ByteArray.empty⟩, (S.load b c).2) := by
    intro r
    unfold PHeap.act
    rw [if_neg (by rw [hr]; decide)]
    simp
  replace hR := Lib.hid hR
  clear hr
  replace hact : Hid _ := Lib.hid hact
  replace h := Lib.hid h
  have B1 := Blk.alloc (Blk.alloc (Blk.new w 31 #[.int .i64 1, .int .u64 b, .int .i64 c, .int .u64 o, .int .u64 n, .string s]) (.cells #[.int .u64 0, .string ⟨#[]⟩] 45)) (.cells #[.int .u64 0, .string ⟨#[]⟩] 45)
  have B2 := Blk.alloc (Blk.new (w.alloc (.cells #[.int .i64 1, .int .u64 b, .int .i64 c, .int .u64 o, .int .u64 n, .string s] 31)) 45 #[.int .u64 0, .string ⟨#[]⟩]) (.cells #[.int .u64 0, .string ⟨#[]⟩] 45)
  have B3 := Blk.new ((w.alloc (.cells #[.int .i64 1, .int .u64 b, .int .i64 c, .int .u64 o, .int .u64 n, .string s] 31)).alloc (.cells #[.int .u64 0, .string ⟨#[]⟩] 45)) 45 #[.int .u64 0, .string ⟨#[]⟩]
  have hW0 : Below w.heap.size w (((w.alloc (.cells #[.int .i64 1, .int .u64 b, .int .i64 c, .int .u64 o, .int .u64 n, .string s] 31)).alloc (.cells #[.int .u64 0, .string ⟨#[]⟩] 45)).alloc (.cells #[.int .u64 0, .string ⟨#[]⟩] 45)) := (((Below.refl _ _).alloc (Nat.le_refl _) _).alloc (by simp) _).alloc (by simp; omega) _
  simp only [World.size_alloc] at B2 B3
  replace B1 := Lib.hid B1
  replace B2 := Lib.hid B2
  replace B3 := Lib.hid B3
  replace hW0 := Lib.hid hW0
  go_enter Try.func38, Try.ntmps38
  go_wp2_with fail
  refine (hR.out _).mono ?_; rintro e w1 ⟨rfl, hb1⟩
  have hB1 := nx hW0.out (Nat.le_refl _) hb1
  have g1 := (B1.out.below hb1 (by simp; omega))
  have g2 := (B2.out.below hb1 (by simp))
  have g3 := (B3.out.below hb1 (by simp))
  have hs := hb1.size
  simp only [World.size_alloc] at hs
  clear hb1
  replace hB1 := Lib.hid hB1
  have c10 := g1.cell 0
  have c11 := g1.cell 1
  have c12 := g1.cell 2
  have c13 := g1.cell 3
  have c14 := g1.cell 4
  have c15 := g1.cell 5
  have c20 := g2.cell 0
  have c21 := g2.cell 1
  have f20 := g2.frozen 0
  have f21 := g2.frozen 1
  have c30 := g3.cell 0
  have c31 := g3.cell 1
  have f30 := g3.frozen 0
  have f31 := g3.frozen 1
  replace g1 := Lib.hid g1
  replace g2 := Lib.hid g2
  replace g3 := Lib.hid g3
  go_wp2_with fail
  refine (load_all (h.out.below hB1.out) b c hb0 hf).mono ?_; rintro e w2 ⟨rfl, ht⟩
  clear c10 c11 c12 c13 c14 c15 c20 c21 f20 f21 c30 c31 f30 f31
  have hF0 : ∀ j, w.heap.size ≤ j → ¬ F j := fun j hj hf => by have := h.out.own j hf; omega
  have g1 := g1.out.keep (ht.2.block _ (by omega) (hF0 _ (by omega)))
  have g2 := g2.out.keep (ht.2.block _ (by omega) (hF0 _ (by omega)))
  have g3 := g3.out.keep (ht.2.block _ (by omega) (hF0 _ (by omega)))
  have hs2 := ht.2.size
  replace ht := Lib.hid ht
  have c10 := g1.cell 0
  have c11 := g1.cell 1
  have c12 := g1.cell 2
  have c13 := g1.cell 3
  have c14 := g1.cell 4
  have c15 := g1.cell 5
  have c20 := g2.cell 0
  have c21 := g2.cell 1
  have f20 := g2.frozen 0
  have f21 := g2.frozen 1
  have c30 := g3.cell 0
  have c31 := g3.cell 1
  have f30 := g3.frozen 0
  have f31 := g3.frozen 1
  clear g1 g2 g3
  go_wp2_with fail
  refine bodyPost_ret (v := .agg #[.int .u64 (S.load b c).1, .string ByteArray.empty]) (by simp [results, Try.results38, go_sem, c20, c21]; try rfl) rfl ⟨0, ?_, ?_⟩
  · rw [hact.out]; rfl
  · rw [hact.out]
    refine do_end h.out.own hB1.out ht.out ?_
    repeat first | exact Chg.refl _ _ | refine Chg.drew ?_ | refine Chg.alloc ?_ _ | refine Chg.setCell ?_ (.inl ⟨by (first | omega | (simp; done) | (simp; omega)), by (first | omega | (simp; omega))⟩) _
set_option maxRecDepth 100000 in
set_option maxHeartbeats 1000000 in
theorem do_10 (b c o n : Int) (s : ByteArray) (hr : PAct.right ⟨10, b, c, o, n, s⟩ = true) (hsz : s.size ≤ 9223372036854775807) (hb0 : 0 ≤ b) (hn0 : 0 ≤ n ∧ n ≤ 18446744073709551615) (hf : S.faults < 9223372036854775807) (hla : S.last < 9223372036854775807) :
    Calls Try.prog 38 #[.pointer (some ⟨hb, 0, none⟩), .agg #[.int .i64 10, .int .u64 b, .int .i64 c, .int .u64 o, .int .u64 n, .string s]] w (DoPost F hb S ⟨10, b, c, o, n, s⟩ w) := by
  have hR := fun W => right_any ⟨10, b, c, o, n, s⟩ W hsz
  rw [hr] at hR
  have hact : ∀ r, S.act ⟨10, b, c, o, n, s⟩ r = (⟨(S.load b c).1, ByteArray.empty⟩, (S.load b c).2) := by
    intro r
    unfold PHeap.act
    rw [if_neg (by rw [hr]; decide)]
    simp
  replace hR := Lib.hid hR
  clear hr
  replace hact : Hid _ := Lib.hid hact
  replace h := Lib.hid h
  have B1 := Blk.alloc (Blk.alloc (Blk.new w 31 #[.int .i64 10, .int .u64 b, .int .i64 c, .int .u64 o, .int .u64 n, .string s]) (.cells #[.int .u64 0, .string ⟨#[]⟩] 45)) (.cells #[.int .u64 0, .string ⟨#[]⟩] 45)
  have B2 := Blk.alloc (Blk.new (w.alloc (.cells #[.int .i64 10, .int .u64 b, .int .i64 c, .int .u64 o, .int .u64 n, .string s] 31)) 45 #[.int .u64 0, .string ⟨#[]⟩]) (.cells #[.int .u64 0, .string ⟨#[]⟩] 45)
  have B3 := Blk.new ((w.alloc (.cells #[.int .i64 10, .int .u64 b, .int .i64 c, .int .u64 o, .int .u64 n, .string s] 31)).alloc (.cells #[.int .u64 0, .string ⟨#[]⟩] 45)) 45 #[.int .u64 0, .string ⟨#[]⟩]
  have hW0 : Below w.heap.size w (((w.alloc (.cells #[.int .i64 10, .int .u64 b, .int .i64 c, .int .u64 o, .int .u64 n, .string s] 31)).alloc (.cells #[.int .u64 0, .string ⟨#[]⟩] 45)).alloc (.cells #[.int .u64 0, .string ⟨#[]⟩] 45)) := (((Below.refl _ _).alloc (Nat.le_refl _) _).alloc (by simp) _).alloc (by simp; omega) _
  simp only [World.size_alloc] at B2 B3
  replace B1 := Lib.hid B1
  replace B2 := Lib.hid B2
  replace B3 := Lib.hid B3
  replace hW0 := Lib.hid hW0
  go_enter Try.func38, Try.ntmps38
  go_wp2_with fail
  refine (hR.out _).mono ?_; rintro e w1 ⟨rfl, hb1⟩
  have hB1 := nx hW0.out (Nat.le_refl _) hb1
  have g1 := (B1.out.below hb1 (by simp; omega))
  have g2 := (B2.out.below hb1 (by simp))
  have g3 := (B3.out.below hb1 (by simp))
  have hs := hb1.size
  simp only [World.size_alloc] at hs
  clear hb1
  replace hB1 := Lib.hid hB1
  have c10 := g1.cell 0
  have c11 := g1.cell 1
  have c12 := g1.cell 2
  have c13 := g1.cell 3
  have c14 := g1.cell 4
  have c15 := g1.cell 5
  have c20 := g2.cell 0
  have c21 := g2.cell 1
  have f20 := g2.frozen 0
  have f21 := g2.frozen 1
  have c30 := g3.cell 0
  have c31 := g3.cell 1
  have f30 := g3.frozen 0
  have f31 := g3.frozen 1
  replace g1 := Lib.hid g1
  replace g2 := Lib.hid g2
  replace g3 := Lib.hid g3
  go_wp2_with fail
  refine (load_all (h.out.below hB1.out) b c hb0 hf).mono ?_; rintro e w2 ⟨rfl, ht⟩
  clear c10 c11 c12 c13 c14 c15 c20 c21 f20 f21 c30 c31 f30 f31
  have hF0 : ∀ j, w.heap.size ≤ j → ¬ F j := fun j hj hf => by have := h.out.own j hf; omega
  have g1 := g1.out.keep (ht.2.block _ (by omega) (hF0 _ (by omega)))
  have g2 := g2.out.keep (ht.2.block _ (by omega) (hF0 _ (by omega)))
  have g3 := g3.out.keep (ht.2.block _ (by omega) (hF0 _ (by omega)))
  have hs2 := ht.2.size
  replace ht := Lib.hid ht
  have c10 := g1.cell 0
  have c11 := g1.cell 1
  have c12 := g1.cell 2
  have c13 := g1.cell 3
  have c14 := g1.cell 4
  have c15 := g1.cell 5
  have c20 := g2.cell 0
  have c21 := g2.cell 1
  have f20 := g2.frozen 0
  have f21 := g2.frozen 1
  have c30 := g3.cell 0
  have c31 := g3.cell 1
  have f30 := g3.frozen 0
  have f31 := g3.frozen 1
  clear g1 g2 g3
  go_wp2_with fail
  refine bodyPost_ret (v := .agg #[.int .u64 (S.load b c).1, .string ByteArray.empty]) (by simp [results, Try.results38, go_sem, c20, c21]; try rfl) rfl ⟨0, ?_, ?_⟩
  · rw [hact.out]; rfl
  · rw [hact.out]
    refine do_end h.out.own hB1.out ht.out ?_
    repeat first | exact Chg.refl _ _ | refine Chg.drew ?_ | refine Chg.alloc ?_ _ | refine Chg.setCell ?_ (.inl ⟨by (first | omega | (simp; done) | (simp; omega)), by (first | omega | (simp; omega))⟩) _
set_option maxRecDepth 100000 in
set_option maxHeartbeats 1000000 in
theorem do_2 (b c o n : Int) (s : ByteArray) (hr : PAct.right ⟨2, b, c, o, n, s⟩ = true) (hsz : s.size ≤ 9223372036854775807) (hb0 : 0 ≤ b) (hn0 : 0 ≤ n ∧ n ≤ 18446744073709551615) (hf : S.faults < 9223372036854775807) (hla : S.last < 9223372036854775807) :
    Calls Try.prog 38 #[.pointer (some ⟨hb, 0, none⟩), .agg #[.int .i64 2, .int .u64 b, .int .i64 c, .int .u64 o, .int .u64 n, .string s]] w (DoPost F hb S ⟨2, b, c, o, n, s⟩ w) := by
  have hR := fun W => right_any ⟨2, b, c, o, n, s⟩ W hsz
  rw [hr] at hR
  have hact : ∀ r, S.act ⟨2, b, c, o, n, s⟩ r = (⟨0, ByteArray.empty⟩, S.store b c n) := by
    intro r
    unfold PHeap.act
    rw [if_neg (by rw [hr]; decide)]
    simp
  replace hR := Lib.hid hR
  clear hr
  replace hact : Hid _ := Lib.hid hact
  replace h := Lib.hid h
  have B1 := Blk.alloc (Blk.alloc (Blk.new w 31 #[.int .i64 2, .int .u64 b, .int .i64 c, .int .u64 o, .int .u64 n, .string s]) (.cells #[.int .u64 0, .string ⟨#[]⟩] 45)) (.cells #[.int .u64 0, .string ⟨#[]⟩] 45)
  have B2 := Blk.alloc (Blk.new (w.alloc (.cells #[.int .i64 2, .int .u64 b, .int .i64 c, .int .u64 o, .int .u64 n, .string s] 31)) 45 #[.int .u64 0, .string ⟨#[]⟩]) (.cells #[.int .u64 0, .string ⟨#[]⟩] 45)
  have B3 := Blk.new ((w.alloc (.cells #[.int .i64 2, .int .u64 b, .int .i64 c, .int .u64 o, .int .u64 n, .string s] 31)).alloc (.cells #[.int .u64 0, .string ⟨#[]⟩] 45)) 45 #[.int .u64 0, .string ⟨#[]⟩]
  have hW0 : Below w.heap.size w (((w.alloc (.cells #[.int .i64 2, .int .u64 b, .int .i64 c, .int .u64 o, .int .u64 n, .string s] 31)).alloc (.cells #[.int .u64 0, .string ⟨#[]⟩] 45)).alloc (.cells #[.int .u64 0, .string ⟨#[]⟩] 45)) := (((Below.refl _ _).alloc (Nat.le_refl _) _).alloc (by simp) _).alloc (by simp; omega) _
  simp only [World.size_alloc] at B2 B3
  replace B1 := Lib.hid B1
  replace B2 := Lib.hid B2
  replace B3 := Lib.hid B3
  replace hW0 := Lib.hid hW0
  go_enter Try.func38, Try.ntmps38
  go_wp2_with fail
  refine (hR.out _).mono ?_; rintro e w1 ⟨rfl, hb1⟩
  have hB1 := nx hW0.out (Nat.le_refl _) hb1
  have g1 := (B1.out.below hb1 (by simp; omega))
  have g2 := (B2.out.below hb1 (by simp))
  have g3 := (B3.out.below hb1 (by simp))
  have hs := hb1.size
  simp only [World.size_alloc] at hs
  clear hb1
  replace hB1 := Lib.hid hB1
  have c10 := g1.cell 0
  have c11 := g1.cell 1
  have c12 := g1.cell 2
  have c13 := g1.cell 3
  have c14 := g1.cell 4
  have c15 := g1.cell 5
  have c20 := g2.cell 0
  have c21 := g2.cell 1
  have f20 := g2.frozen 0
  have f21 := g2.frozen 1
  have c30 := g3.cell 0
  have c31 := g3.cell 1
  have f30 := g3.frozen 0
  have f31 := g3.frozen 1
  replace g1 := Lib.hid g1
  replace g2 := Lib.hid g2
  replace g3 := Lib.hid g3
  go_wp2_with fail
  refine (store_all (h.out.below hB1.out) b c n hb0 hn0 hf).mono ?_; rintro e w2 ⟨rfl, ht⟩
  clear c10 c11 c12 c13 c14 c15 c20 c21 f20 f21 c30 c31 f30 f31
  have hF0 : ∀ j, w.heap.size ≤ j → ¬ F j := fun j hj hf => by have := h.out.own j hf; omega
  have g1 := g1.out.keep (ht.2.block _ (by omega) (hF0 _ (by omega)))
  have g2 := g2.out.keep (ht.2.block _ (by omega) (hF0 _ (by omega)))
  have g3 := g3.out.keep (ht.2.block _ (by omega) (hF0 _ (by omega)))
  have hs2 := ht.2.size
  replace ht := Lib.hid ht
  have c10 := g1.cell 0
  have c11 := g1.cell 1
  have c12 := g1.cell 2
  have c13 := g1.cell 3
  have c14 := g1.cell 4
  have c15 := g1.cell 5
  have c20 := g2.cell 0
  have c21 := g2.cell 1
  have f20 := g2.frozen 0
  have f21 := g2.frozen 1
  have c30 := g3.cell 0
  have c31 := g3.cell 1
  have f30 := g3.frozen 0
  have f31 := g3.frozen 1
  clear g1 g2 g3
  go_wp2_with fail
  refine bodyPost_ret (v := .agg #[.int .u64 0, .string ByteArray.empty]) (by simp [results, Try.results38, go_sem, c20, c21]; try rfl) rfl ⟨0, ?_, ?_⟩
  · rw [hact.out]; rfl
  · rw [hact.out]
    refine do_end h.out.own hB1.out ht.out ?_
    repeat first | exact Chg.refl _ _ | refine Chg.drew ?_ | refine Chg.alloc ?_ _ | refine Chg.setCell ?_ (.inl ⟨by (first | omega | (simp; done) | (simp; omega)), by (first | omega | (simp; omega))⟩) _
set_option maxRecDepth 100000 in
set_option maxHeartbeats 1000000 in
theorem do_3 (b c o n : Int) (s : ByteArray) (hr : PAct.right ⟨3, b, c, o, n, s⟩ = true) (hsz : s.size ≤ 9223372036854775807) (hb0 : 0 ≤ b) (hn0 : 0 ≤ n ∧ n ≤ 18446744073709551615) (hf : S.faults < 9223372036854775807) (hla : S.last < 9223372036854775807) :
    Calls Try.prog 38 #[.pointer (some ⟨hb, 0, none⟩), .agg #[.int .i64 3, .int .u64 b, .int .i64 c, .int .u64 o, .int .u64 n, .string s]] w (DoPost F hb S ⟨3, b, c, o, n, s⟩ w) := by
  have hR := fun W => right_any ⟨3, b, c, o, n, s⟩ W hsz
  rw [hr] at hR
  have hact : ∀ r, S.act ⟨3, b, c, o, n, s⟩ r = (⟨(S.swap b c o n).1, ByteArray.empty⟩, (S.swap b c o n).2) := by
    intro r
    unfold PHeap.act
    rw [if_neg (by rw [hr]; decide)]
    simp
  replace hR := Lib.hid hR
  clear hr
  replace hact : Hid _ := Lib.hid hact
  replace h := Lib.hid h
  have B1 := Blk.alloc (Blk.alloc (Blk.new w 31 #[.int .i64 3, .int .u64 b, .int .i64 c, .int .u64 o, .int .u64 n, .string s]) (.cells #[.int .u64 0, .string ⟨#[]⟩] 45)) (.cells #[.int .u64 0, .string ⟨#[]⟩] 45)
  have B2 := Blk.alloc (Blk.new (w.alloc (.cells #[.int .i64 3, .int .u64 b, .int .i64 c, .int .u64 o, .int .u64 n, .string s] 31)) 45 #[.int .u64 0, .string ⟨#[]⟩]) (.cells #[.int .u64 0, .string ⟨#[]⟩] 45)
  have B3 := Blk.new ((w.alloc (.cells #[.int .i64 3, .int .u64 b, .int .i64 c, .int .u64 o, .int .u64 n, .string s] 31)).alloc (.cells #[.int .u64 0, .string ⟨#[]⟩] 45)) 45 #[.int .u64 0, .string ⟨#[]⟩]
  have hW0 : Below w.heap.size w (((w.alloc (.cells #[.int .i64 3, .int .u64 b, .int .i64 c, .int .u64 o, .int .u64 n, .string s] 31)).alloc (.cells #[.int .u64 0, .string ⟨#[]⟩] 45)).alloc (.cells #[.int .u64 0, .string ⟨#[]⟩] 45)) := (((Below.refl _ _).alloc (Nat.le_refl _) _).alloc (by simp) _).alloc (by simp; omega) _
  simp only [World.size_alloc] at B2 B3
  replace B1 := Lib.hid B1
  replace B2 := Lib.hid B2
  replace B3 := Lib.hid B3
  replace hW0 := Lib.hid hW0
  go_enter Try.func38, Try.ntmps38
  go_wp2_with fail
  refine (hR.out _).mono ?_; rintro e w1 ⟨rfl, hb1⟩
  have hB1 := nx hW0.out (Nat.le_refl _) hb1
  have g1 := (B1.out.below hb1 (by simp; omega))
  have g2 := (B2.out.below hb1 (by simp))
  have g3 := (B3.out.below hb1 (by simp))
  have hs := hb1.size
  simp only [World.size_alloc] at hs
  clear hb1
  replace hB1 := Lib.hid hB1
  have c10 := g1.cell 0
  have c11 := g1.cell 1
  have c12 := g1.cell 2
  have c13 := g1.cell 3
  have c14 := g1.cell 4
  have c15 := g1.cell 5
  have c20 := g2.cell 0
  have c21 := g2.cell 1
  have f20 := g2.frozen 0
  have f21 := g2.frozen 1
  have c30 := g3.cell 0
  have c31 := g3.cell 1
  have f30 := g3.frozen 0
  have f31 := g3.frozen 1
  replace g1 := Lib.hid g1
  replace g2 := Lib.hid g2
  replace g3 := Lib.hid g3
  go_wp2_with fail
  refine (swap_all (h.out.below hB1.out) b c o n hb0 hn0 hf).mono ?_; rintro e w2 ⟨rfl, ht⟩
  clear c10 c11 c12 c13 c14 c15 c20 c21 f20 f21 c30 c31 f30 f31
  have hF0 : ∀ j, w.heap.size ≤ j → ¬ F j := fun j hj hf => by have := h.out.own j hf; omega
  have g1 := g1.out.keep (ht.2.block _ (by omega) (hF0 _ (by omega)))
  have g2 := g2.out.keep (ht.2.block _ (by omega) (hF0 _ (by omega)))
  have g3 := g3.out.keep (ht.2.block _ (by omega) (hF0 _ (by omega)))
  have hs2 := ht.2.size
  replace ht := Lib.hid ht
  have c10 := g1.cell 0
  have c11 := g1.cell 1
  have c12 := g1.cell 2
  have c13 := g1.cell 3
  have c14 := g1.cell 4
  have c15 := g1.cell 5
  have c20 := g2.cell 0
  have c21 := g2.cell 1
  have f20 := g2.frozen 0
  have f21 := g2.frozen 1
  have c30 := g3.cell 0
  have c31 := g3.cell 1
  have f30 := g3.frozen 0
  have f31 := g3.frozen 1
  clear g1 g2 g3
  go_wp2_with fail
  refine bodyPost_ret (v := .agg #[.int .u64 (S.swap b c o n).1, .string ByteArray.empty]) (by simp [results, Try.results38, go_sem, c20, c21]; try rfl) rfl ⟨0, ?_, ?_⟩
  · rw [hact.out]; rfl
  · rw [hact.out]
    refine do_end h.out.own hB1.out ht.out ?_
    repeat first | exact Chg.refl _ _ | refine Chg.drew ?_ | refine Chg.alloc ?_ _ | refine Chg.setCell ?_ (.inl ⟨by (first | omega | (simp; done) | (simp; omega)), by (first | omega | (simp; omega))⟩) _
set_option maxRecDepth 100000 in
set_option maxHeartbeats 1000000 in
theorem do_4 (b c o n : Int) (s : ByteArray) (hr : PAct.right ⟨4, b, c, o, n, s⟩ = true) (hsz : s.size ≤ 9223372036854775807) (hb0 : 0 ≤ b) (hn0 : 0 ≤ n ∧ n ≤ 18446744073709551615) (hf : S.faults < 9223372036854775807) (hla : S.last < 9223372036854775807) :
    Calls Try.prog 38 #[.pointer (some ⟨hb, 0, none⟩), .agg #[.int .i64 4, .int .u64 b, .int .i64 c, .int .u64 o, .int .u64 n, .string s]] w (DoPost F hb S ⟨4, b, c, o, n, s⟩ w) := by
  have hR := fun W => right_any ⟨4, b, c, o, n, s⟩ W hsz
  rw [hr] at hR
  have hact : ∀ r, S.act ⟨4, b, c, o, n, s⟩ r = (⟨(S.bump b c n).1, ByteArray.empty⟩, (S.bump b c n).2) := by
    intro r
    unfold PHeap.act
    rw [if_neg (by rw [hr]; decide)]
    simp
  replace hR := Lib.hid hR
  clear hr
  replace hact : Hid _ := Lib.hid hact
  replace h := Lib.hid h
  have B1 := Blk.alloc (Blk.alloc (Blk.new w 31 #[.int .i64 4, .int .u64 b, .int .i64 c, .int .u64 o, .int .u64 n, .string s]) (.cells #[.int .u64 0, .string ⟨#[]⟩] 45)) (.cells #[.int .u64 0, .string ⟨#[]⟩] 45)
  have B2 := Blk.alloc (Blk.new (w.alloc (.cells #[.int .i64 4, .int .u64 b, .int .i64 c, .int .u64 o, .int .u64 n, .string s] 31)) 45 #[.int .u64 0, .string ⟨#[]⟩]) (.cells #[.int .u64 0, .string ⟨#[]⟩] 45)
  have B3 := Blk.new ((w.alloc (.cells #[.int .i64 4, .int .u64 b, .int .i64 c, .int .u64 o, .int .u64 n, .string s] 31)).alloc (.cells #[.int .u64 0, .string ⟨#[]⟩] 45)) 45 #[.int .u64 0, .string ⟨#[]⟩]
  have hW0 : Below w.heap.size w (((w.alloc (.cells #[.int .i64 4, .int .u64 b, .int .i64 c, .int .u64 o, .int .u64 n, .string s] 31)).alloc (.cells #[.int .u64 0, .string ⟨#[]⟩] 45)).alloc (.cells #[.int .u64 0, .string ⟨#[]⟩] 45)) := (((Below.refl _ _).alloc (Nat.le_refl _) _).alloc (by simp) _).alloc (by simp; omega) _
  simp only [World.size_alloc] at B2 B3
  replace B1 := Lib.hid B1
  replace B2 := Lib.hid B2
  replace B3 := Lib.hid B3
  replace hW0 := Lib.hid hW0
  go_enter Try.func38, Try.ntmps38
  go_wp2_with fail
  refine (hR.out _).mono ?_; rintro e w1 ⟨rfl, hb1⟩
  have hB1 := nx hW0.out (Nat.le_refl _) hb1
  have g1 := (B1.out.below hb1 (by simp; omega))
  have g2 := (B2.out.below hb1 (by simp))
  have g3 := (B3.out.below hb1 (by simp))
  have hs := hb1.size
  simp only [World.size_alloc] at hs
  clear hb1
  replace hB1 := Lib.hid hB1
  have c10 := g1.cell 0
  have c11 := g1.cell 1
  have c12 := g1.cell 2
  have c13 := g1.cell 3
  have c14 := g1.cell 4
  have c15 := g1.cell 5
  have c20 := g2.cell 0
  have c21 := g2.cell 1
  have f20 := g2.frozen 0
  have f21 := g2.frozen 1
  have c30 := g3.cell 0
  have c31 := g3.cell 1
  have f30 := g3.frozen 0
  have f31 := g3.frozen 1
  replace g1 := Lib.hid g1
  replace g2 := Lib.hid g2
  replace g3 := Lib.hid g3
  go_wp2_with fail
  refine (bump_all (h.out.below hB1.out) b c n hb0 hn0 hf).mono ?_; rintro e w2 ⟨rfl, ht⟩
  clear c10 c11 c12 c13 c14 c15 c20 c21 f20 f21 c30 c31 f30 f31
  have hF0 : ∀ j, w.heap.size ≤ j → ¬ F j := fun j hj hf => by have := h.out.own j hf; omega
  have g1 := g1.out.keep (ht.2.block _ (by omega) (hF0 _ (by omega)))
  have g2 := g2.out.keep (ht.2.block _ (by omega) (hF0 _ (by omega)))
  have g3 := g3.out.keep (ht.2.block _ (by omega) (hF0 _ (by omega)))
  have hs2 := ht.2.size
  replace ht := Lib.hid ht
  have c10 := g1.cell 0
  have c11 := g1.cell 1
  have c12 := g1.cell 2
  have c13 := g1.cell 3
  have c14 := g1.cell 4
  have c15 := g1.cell 5
  have c20 := g2.cell 0
  have c21 := g2.cell 1
  have f20 := g2.frozen 0
  have f21 := g2.frozen 1
  have c30 := g3.cell 0
  have c31 := g3.cell 1
  have f30 := g3.frozen 0
  have f31 := g3.frozen 1
  clear g1 g2 g3
  go_wp2_with fail
  refine bodyPost_ret (v := .agg #[.int .u64 (S.bump b c n).1, .string ByteArray.empty]) (by simp [results, Try.results38, go_sem, c20, c21]; try rfl) rfl ⟨0, ?_, ?_⟩
  · rw [hact.out]; rfl
  · rw [hact.out]
    refine do_end h.out.own hB1.out ht.out ?_
    repeat first | exact Chg.refl _ _ | refine Chg.drew ?_ | refine Chg.alloc ?_ _ | refine Chg.setCell ?_ (.inl ⟨by (first | omega | (simp; done) | (simp; omega)), by (first | omega | (simp; omega))⟩) _
set_option maxRecDepth 100000 in
set_option maxHeartbeats 1000000 in
theorem do_5 (b c o n : Int) (s : ByteArray) (hr : PAct.right ⟨5, b, c, o, n, s⟩ = true) (hsz : s.size ≤ 9223372036854775807) (hb0 : 0 ≤ b) (hn0 : 0 ≤ n ∧ n ≤ 18446744073709551615) (hf : S.faults < 9223372036854775807) (hla : S.last < 9223372036854775807) :
    Calls Try.prog 38 #[.pointer (some ⟨hb, 0, none⟩), .agg #[.int .i64 5, .int .u64 b, .int .i64 c, .int .u64 o, .int .u64 n, .string s]] w (DoPost F hb S ⟨5, b, c, o, n, s⟩ w) := by
  have hR := fun W => right_any ⟨5, b, c, o, n, s⟩ W hsz
  rw [hr] at hR
  have hact : ∀ r, S.act ⟨5, b, c, o, n, s⟩ r = (⟨(S.make c s r).1, ByteArray.empty⟩, (S.make c s r).2) := by
    intro r
    unfold PHeap.act
    rw [if_neg (by rw [hr]; decide)]
    simp
  replace hR := Lib.hid hR
  clear hr
  replace hact : Hid _ := Lib.hid hact
  replace h := Lib.hid h
  have B1 := Blk.alloc (Blk.alloc (Blk.new w 31 #[.int .i64 5, .int .u64 b, .int .i64 c, .int .u64 o, .int .u64 n, .string s]) (.cells #[.int .u64 0, .string ⟨#[]⟩] 45)) (.cells #[.int .u64 0, .string ⟨#[]⟩] 45)
  have B2 := Blk.alloc (Blk.new (w.alloc (.cells #[.int .i64 5, .int .u64 b, .int .i64 c, .int .u64 o, .int .u64 n, .string s] 31)) 45 #[.int .u64 0, .string ⟨#[]⟩]) (.cells #[.int .u64 0, .string ⟨#[]⟩] 45)
  have B3 := Blk.new ((w.alloc (.cells #[.int .i64 5, .int .u64 b, .int .i64 c, .int .u64 o, .int .u64 n, .string s] 31)).alloc (.cells #[.int .u64 0, .string ⟨#[]⟩] 45)) 45 #[.int .u64 0, .string ⟨#[]⟩]
  have hW0 : Below w.heap.size w (((w.alloc (.cells #[.int .i64 5, .int .u64 b, .int .i64 c, .int .u64 o, .int .u64 n, .string s] 31)).alloc (.cells #[.int .u64 0, .string ⟨#[]⟩] 45)).alloc (.cells #[.int .u64 0, .string ⟨#[]⟩] 45)) := (((Below.refl _ _).alloc (Nat.le_refl _) _).alloc (by simp) _).alloc (by simp; omega) _
  simp only [World.size_alloc] at B2 B3
  replace B1 := Lib.hid B1
  replace B2 := Lib.hid B2
  replace B3 := Lib.hid B3
  replace hW0 := Lib.hid hW0
  go_enter Try.func38, Try.ntmps38
  go_wp2_with fail
  refine (hR.out _).mono ?_; rintro e w1 ⟨rfl, hb1⟩
  have hB1 := nx hW0.out (Nat.le_refl _) hb1
  have g1 := (B1.out.below hb1 (by simp; omega))
  have g2 := (B2.out.below hb1 (by simp))
  have g3 := (B3.out.below hb1 (by simp))
  have hs := hb1.size
  simp only [World.size_alloc] at hs
  clear hb1
  replace hB1 := Lib.hid hB1
  have c10 := g1.cell 0
  have c11 := g1.cell 1
  have c12 := g1.cell 2
  have c13 := g1.cell 3
  have c14 := g1.cell 4
  have c15 := g1.cell 5
  have c20 := g2.cell 0
  have c21 := g2.cell 1
  have f20 := g2.frozen 0
  have f21 := g2.frozen 1
  have c30 := g3.cell 0
  have c31 := g3.cell 1
  have f30 := g3.frozen 0
  have f31 := g3.frozen 1
  replace g1 := Lib.hid g1
  replace g2 := Lib.hid g2
  replace g3 := Lib.hid g3
  go_wp2_with fail
  refine (make_all (h.out.below hB1.out) c s hla).mono ?_; rintro e w2 ⟨r0, rfl, ht⟩
  clear c10 c11 c12 c13 c14 c15 c20 c21 f20 f21 c30 c31 f30 f31
  have hF0 : ∀ j, w.heap.size ≤ j → ¬ F j := fun j hj hf => by have := h.out.own j hf; omega
  have g1 := g1.out.keep (ht.2.block _ (by omega) (hF0 _ (by omega)))
  have g2 := g2.out.keep (ht.2.block _ (by omega) (hF0 _ (by omega)))
  have g3 := g3.out.keep (ht.2.block _ (by omega) (hF0 _ (by omega)))
  have hs2 := ht.2.size
  replace ht := Lib.hid ht
  have c10 := g1.cell 0
  have c11 := g1.cell 1
  have c12 := g1.cell 2
  have c13 := g1.cell 3
  have c14 := g1.cell 4
  have c15 := g1.cell 5
  have c20 := g2.cell 0
  have c21 := g2.cell 1
  have f20 := g2.frozen 0
  have f21 := g2.frozen 1
  have c30 := g3.cell 0
  have c31 := g3.cell 1
  have f30 := g3.frozen 0
  have f31 := g3.frozen 1
  clear g1 g2 g3
  go_wp2_with fail
  refine bodyPost_ret (v := .agg #[.int .u64 (S.make c s r0).1, .string ByteArray.empty]) (by simp [results, Try.results38, go_sem, c20, c21]; try rfl) rfl ⟨r0, ?_, ?_⟩
  · rw [hact.out]; rfl
  · rw [hact.out]
    refine do_end h.out.own hB1.out ht.out ?_
    repeat first | exact Chg.refl _ _ | refine Chg.drew ?_ | refine Chg.alloc ?_ _ | refine Chg.setCell ?_ (.inl ⟨by (first | omega | (simp; done) | (simp; omega)), by (first | omega | (simp; omega))⟩) _
set_option maxRecDepth 100000 in
set_option maxHeartbeats 1000000 in
theorem do_6 (b c o n : Int) (s : ByteArray) (hr : PAct.right ⟨6, b, c, o, n, s⟩ = true) (hsz : s.size ≤ 9223372036854775807) (hb0 : 0 ≤ b) (hn0 : 0 ≤ n ∧ n ≤ 18446744073709551615) (hf : S.faults < 9223372036854775807) (hla : S.last < 9223372036854775807) :
    Calls Try.prog 38 #[.pointer (some ⟨hb, 0, none⟩), .agg #[.int .i64 6, .int .u64 b, .int .i64 c, .int .u64 o, .int .u64 n, .string s]] w (DoPost F hb S ⟨6, b, c, o, n, s⟩ w) := by
  have hR := fun W => right_any ⟨6, b, c, o, n, s⟩ W hsz
  rw [hr] at hR
  have hact : ∀ r, S.act ⟨6, b, c, o, n, s⟩ r = (⟨0, (S.words b).1⟩, (S.words b).2) := by
    intro r
    unfold PHeap.act
    rw [if_neg (by rw [hr]; decide)]
    simp
  replace hR := Lib.hid hR
  clear hr
  replace hact : Hid _ := Lib.hid hact
  replace h := Lib.hid h
  have B1 := Blk.alloc (Blk.alloc (Blk.new w 31 #[.int .i64 6, .int .u64 b, .int .i64 c, .int .u64 o, .int .u64 n, .string s]) (.cells #[.int .u64 0, .string ⟨#[]⟩] 45)) (.cells #[.int .u64 0, .string ⟨#[]⟩] 45)
  have B2 := Blk.alloc (Blk.new (w.alloc (.cells #[.int .i64 6, .int .u64 b, .int .i64 c, .int .u64 o, .int .u64 n, .string s] 31)) 45 #[.int .u64 0, .string ⟨#[]⟩]) (.cells #[.int .u64 0, .string ⟨#[]⟩] 45)
  have B3 := Blk.new ((w.alloc (.cells #[.int .i64 6, .int .u64 b, .int .i64 c, .int .u64 o, .int .u64 n, .string s] 31)).alloc (.cells #[.int .u64 0, .string ⟨#[]⟩] 45)) 45 #[.int .u64 0, .string ⟨#[]⟩]
  have hW0 : Below w.heap.size w (((w.alloc (.cells #[.int .i64 6, .int .u64 b, .int .i64 c, .int .u64 o, .int .u64 n, .string s] 31)).alloc (.cells #[.int .u64 0, .string ⟨#[]⟩] 45)).alloc (.cells #[.int .u64 0, .string ⟨#[]⟩] 45)) := (((Below.refl _ _).alloc (Nat.le_refl _) _).alloc (by simp) _).alloc (by simp; omega) _
  simp only [World.size_alloc] at B2 B3
  replace B1 := Lib.hid B1
  replace B2 := Lib.hid B2
  replace B3 := Lib.hid B3
  replace hW0 := Lib.hid hW0
  go_enter Try.func38, Try.ntmps38
  go_wp2_with fail
  refine (hR.out _).mono ?_; rintro e w1 ⟨rfl, hb1⟩
  have hB1 := nx hW0.out (Nat.le_refl _) hb1
  have g1 := (B1.out.below hb1 (by simp; omega))
  have g2 := (B2.out.below hb1 (by simp))
  have g3 := (B3.out.below hb1 (by simp))
  have hs := hb1.size
  simp only [World.size_alloc] at hs
  clear hb1
  replace hB1 := Lib.hid hB1
  have c10 := g1.cell 0
  have c11 := g1.cell 1
  have c12 := g1.cell 2
  have c13 := g1.cell 3
  have c14 := g1.cell 4
  have c15 := g1.cell 5
  have c20 := g2.cell 0
  have c21 := g2.cell 1
  have f20 := g2.frozen 0
  have f21 := g2.frozen 1
  have c30 := g3.cell 0
  have c31 := g3.cell 1
  have f30 := g3.frozen 0
  have f31 := g3.frozen 1
  replace g1 := Lib.hid g1
  replace g2 := Lib.hid g2
  replace g3 := Lib.hid g3
  go_wp2_with fail
  refine (wordsEx_all (h.out.below hB1.out) b hb0 hf).mono ?_; rintro e w2 ⟨cd, rfl, ht⟩
  clear c10 c11 c12 c13 c14 c15 c20 c21 f20 f21 c30 c31 f30 f31
  have hF0 : ∀ j, w.heap.size ≤ j → ¬ F j := fun j hj hf => by have := h.out.own j hf; omega
  have g1 := g1.out.keep (ht.2.block _ (by omega) (hF0 _ (by omega)))
  have g2 := g2.out.keep (ht.2.block _ (by omega) (hF0 _ (by omega)))
  have g3 := g3.out.keep (ht.2.block _ (by omega) (hF0 _ (by omega)))
  have hs2 := ht.2.size
  replace ht := Lib.hid ht
  have c10 := g1.cell 0
  have c11 := g1.cell 1
  have c12 := g1.cell 2
  have c13 := g1.cell 3
  have c14 := g1.cell 4
  have c15 := g1.cell 5
  have c20 := g2.cell 0
  have c21 := g2.cell 1
  have f20 := g2.frozen 0
  have f21 := g2.frozen 1
  have c30 := g3.cell 0
  have c31 := g3.cell 1
  have f30 := g3.frozen 0
  have f31 := g3.frozen 1
  clear g1 g2 g3
  go_wp2_with fail
  refine bodyPost_ret (v := .agg #[.int .u64 0, .string (S.words b).1]) (by simp [results, Try.results38, go_sem, c20, c21]; try rfl) rfl ⟨0, ?_, ?_⟩
  · rw [hact.out]; rfl
  · rw [hact.out]
    refine do_end h.out.own hB1.out ht.out ?_
    repeat first | exact Chg.refl _ _ | refine Chg.drew ?_ | refine Chg.alloc ?_ _ | refine Chg.setCell ?_ (.inl ⟨by (first | omega | (simp; done) | (simp; omega)), by (first | omega | (simp; omega))⟩) _
set_option maxRecDepth 100000 in
set_option maxHeartbeats 1000000 in
theorem do_7 (b c o n : Int) (s : ByteArray) (hr : PAct.right ⟨7, b, c, o, n, s⟩ = true) (hsz : s.size ≤ 9223372036854775807) (hb0 : 0 ≤ b) (hn0 : 0 ≤ n ∧ n ≤ 18446744073709551615) (hf : S.faults < 9223372036854775807) (hla : S.last < 9223372036854775807) :
    Calls Try.prog 38 #[.pointer (some ⟨hb, 0, none⟩), .agg #[.int .i64 7, .int .u64 b, .int .i64 c, .int .u64 o, .int .u64 n, .string s]] w (DoPost F hb S ⟨7, b, c, o, n, s⟩ w) := by
  have hR := fun W => right_any ⟨7, b, c, o, n, s⟩ W hsz
  rw [hr] at hR
  have hact : ∀ r, S.act ⟨7, b, c, o, n, s⟩ r = (⟨0, ByteArray.empty⟩, S.drop b) := by
    intro r
    unfold PHeap.act
    rw [if_neg (by rw [hr]; decide)]
    simp
  replace hR := Lib.hid hR
  clear hr
  replace hact : Hid _ := Lib.hid hact
  replace h := Lib.hid h
  have B1 := Blk.alloc (Blk.alloc (Blk.new w 31 #[.int .i64 7, .int .u64 b, .int .i64 c, .int .u64 o, .int .u64 n, .string s]) (.cells #[.int .u64 0, .string ⟨#[]⟩] 45)) (.cells #[.int .u64 0, .string ⟨#[]⟩] 45)
  have B2 := Blk.alloc (Blk.new (w.alloc (.cells #[.int .i64 7, .int .u64 b, .int .i64 c, .int .u64 o, .int .u64 n, .string s] 31)) 45 #[.int .u64 0, .string ⟨#[]⟩]) (.cells #[.int .u64 0, .string ⟨#[]⟩] 45)
  have B3 := Blk.new ((w.alloc (.cells #[.int .i64 7, .int .u64 b, .int .i64 c, .int .u64 o, .int .u64 n, .string s] 31)).alloc (.cells #[.int .u64 0, .string ⟨#[]⟩] 45)) 45 #[.int .u64 0, .string ⟨#[]⟩]
  have hW0 : Below w.heap.size w (((w.alloc (.cells #[.int .i64 7, .int .u64 b, .int .i64 c, .int .u64 o, .int .u64 n, .string s] 31)).alloc (.cells #[.int .u64 0, .string ⟨#[]⟩] 45)).alloc (.cells #[.int .u64 0, .string ⟨#[]⟩] 45)) := (((Below.refl _ _).alloc (Nat.le_refl _) _).alloc (by simp) _).alloc (by simp; omega) _
  simp only [World.size_alloc] at B2 B3
  replace B1 := Lib.hid B1
  replace B2 := Lib.hid B2
  replace B3 := Lib.hid B3
  replace hW0 := Lib.hid hW0
  go_enter Try.func38, Try.ntmps38
  go_wp2_with fail
  refine (hR.out _).mono ?_; rintro e w1 ⟨rfl, hb1⟩
  have hB1 := nx hW0.out (Nat.le_refl _) hb1
  have g1 := (B1.out.below hb1 (by simp; omega))
  have g2 := (B2.out.below hb1 (by simp))
  have g3 := (B3.out.below hb1 (by simp))
  have hs := hb1.size
  simp only [World.size_alloc] at hs
  clear hb1
  replace hB1 := Lib.hid hB1
  have c10 := g1.cell 0
  have c11 := g1.cell 1
  have c12 := g1.cell 2
  have c13 := g1.cell 3
  have c14 := g1.cell 4
  have c15 := g1.cell 5
  have c20 := g2.cell 0
  have c21 := g2.cell 1
  have f20 := g2.frozen 0
  have f21 := g2.frozen 1
  have c30 := g3.cell 0
  have c31 := g3.cell 1
  have f30 := g3.frozen 0
  have f31 := g3.frozen 1
  replace g1 := Lib.hid g1
  replace g2 := Lib.hid g2
  replace g3 := Lib.hid g3
  go_wp2_with fail
  refine (dropEx_all (h.out.below hB1.out) b hb0 hf).mono ?_; rintro e w2 ⟨cd, rfl, ht⟩
  clear c10 c11 c12 c13 c14 c15 c20 c21 f20 f21 c30 c31 f30 f31
  have hF0 : ∀ j, w.heap.size ≤ j → ¬ F j := fun j hj hf => by have := h.out.own j hf; omega
  have g1 := g1.out.keep (ht.2.block _ (by omega) (hF0 _ (by omega)))
  have g2 := g2.out.keep (ht.2.block _ (by omega) (hF0 _ (by omega)))
  have g3 := g3.out.keep (ht.2.block _ (by omega) (hF0 _ (by omega)))
  have hs2 := ht.2.size
  replace ht := Lib.hid ht
  have c10 := g1.cell 0
  have c11 := g1.cell 1
  have c12 := g1.cell 2
  have c13 := g1.cell 3
  have c14 := g1.cell 4
  have c15 := g1.cell 5
  have c20 := g2.cell 0
  have c21 := g2.cell 1
  have f20 := g2.frozen 0
  have f21 := g2.frozen 1
  have c30 := g3.cell 0
  have c31 := g3.cell 1
  have f30 := g3.frozen 0
  have f31 := g3.frozen 1
  clear g1 g2 g3
  go_wp2_with fail
  refine bodyPost_ret (v := .agg #[.int .u64 0, .string ByteArray.empty]) (by simp [results, Try.results38, go_sem, c20, c21]; try rfl) rfl ⟨0, ?_, ?_⟩
  · rw [hact.out]; rfl
  · rw [hact.out]
    refine do_end h.out.own hB1.out ht.out ?_
    repeat first | exact Chg.refl _ _ | refine Chg.drew ?_ | refine Chg.alloc ?_ _ | refine Chg.setCell ?_ (.inl ⟨by (first | omega | (simp; done) | (simp; omega)), by (first | omega | (simp; omega))⟩) _
set_option maxRecDepth 100000 in
set_option maxHeartbeats 1000000 in
theorem do_8a (b c o n : Int) (s : ByteArray) (hr : PAct.right ⟨8, b, c, o, n, s⟩ = true) (hsz : s.size ≤ 9223372036854775807) (hb0 : 0 ≤ b) (hn0 : 0 ≤ n ∧ n ≤ 18446744073709551615) (hf : S.faults < 9223372036854775807) (hla : S.last < 9223372036854775807) (hl : S.locked = true) :
    Calls Try.prog 38 #[.pointer (some ⟨hb, 0, none⟩), .agg #[.int .i64 8, .int .u64 b, .int .i64 c, .int .u64 o, .int .u64 n, .string s]] w (DoPost F hb S ⟨8, b, c, o, n, s⟩ w) := by
  have hR := fun W => right_any ⟨8, b, c, o, n, s⟩ W hsz
  rw [hr] at hR
  have hact : ∀ r, S.act ⟨8, b, c, o, n, s⟩ r = (⟨0, ByteArray.empty⟩, S.lock) := by
    intro r
    unfold PHeap.act
    rw [if_neg (by rw [hr]; decide)]
    simp [hl]
  replace hR := Lib.hid hR
  clear hr
  replace hact : Hid _ := Lib.hid hact
  replace h := Lib.hid h
  replace hl := Lib.hid hl
  have B1 := Blk.alloc (Blk.alloc (Blk.new w 31 #[.int .i64 8, .int .u64 b, .int .i64 c, .int .u64 o, .int .u64 n, .string s]) (.cells #[.int .u64 0, .string ⟨#[]⟩] 45)) (.cells #[.int .u64 0, .string ⟨#[]⟩] 45)
  have B2 := Blk.alloc (Blk.new (w.alloc (.cells #[.int .i64 8, .int .u64 b, .int .i64 c, .int .u64 o, .int .u64 n, .string s] 31)) 45 #[.int .u64 0, .string ⟨#[]⟩]) (.cells #[.int .u64 0, .string ⟨#[]⟩] 45)
  have B3 := Blk.new ((w.alloc (.cells #[.int .i64 8, .int .u64 b, .int .i64 c, .int .u64 o, .int .u64 n, .string s] 31)).alloc (.cells #[.int .u64 0, .string ⟨#[]⟩] 45)) 45 #[.int .u64 0, .string ⟨#[]⟩]
  have hW0 : Below w.heap.size w (((w.alloc (.cells #[.int .i64 8, .int .u64 b, .int .i64 c, .int .u64 o, .int .u64 n, .string s] 31)).alloc (.cells #[.int .u64 0, .string ⟨#[]⟩] 45)).alloc (.cells #[.int .u64 0, .string ⟨#[]⟩] 45)) := (((Below.refl _ _).alloc (Nat.le_refl _) _).alloc (by simp) _).alloc (by simp; omega) _
  simp only [World.size_alloc] at B2 B3
  replace B1 := Lib.hid B1
  replace B2 := Lib.hid B2
  replace B3 := Lib.hid B3
  replace hW0 := Lib.hid hW0
  go_enter Try.func38, Try.ntmps38
  go_wp2_with fail
  refine (hR.out _).mono ?_; rintro e w1 ⟨rfl, hb1⟩
  have hB1 := nx hW0.out (Nat.le_refl _) hb1
  have g1 := (B1.out.below hb1 (by simp; omega))
  have g2 := (B2.out.below hb1 (by simp))
  have g3 := (B3.out.below hb1 (by simp))
  have hs := hb1.size
  simp only [World.size_alloc] at hs
  clear hb1
  replace hB1 := Lib.hid hB1
  have c10 := g1.cell 0
  have c11 := g1.cell 1
  have c12 := g1.cell 2
  have c13 := g1.cell 3
  have c14 := g1.cell 4
  have c15 := g1.cell 5
  have c20 := g2.cell 0
  have c21 := g2.cell 1
  have f20 := g2.frozen 0
  have f21 := g2.frozen 1
  have c30 := g3.cell 0
  have c31 := g3.cell 1
  have f30 := g3.frozen 0
  have f31 := g3.frozen 1
  replace g1 := Lib.hid g1
  replace g2 := Lib.hid g2
  replace g3 := Lib.hid g3
  go_wp2_with fail
  refine (lockAs_all (h.out.below hB1.out) true hl.out).mono ?_; rintro e w2 ⟨rfl, ht⟩
  clear c10 c11 c12 c13 c14 c15 c20 c21 f20 f21 c30 c31 f30 f31
  have hF0 : ∀ j, w.heap.size ≤ j → ¬ F j := fun j hj hf => by have := h.out.own j hf; omega
  have g1 := g1.out.keep (ht.2.block _ (by omega) (hF0 _ (by omega)))
  have g2 := g2.out.keep (ht.2.block _ (by omega) (hF0 _ (by omega)))
  have g3 := g3.out.keep (ht.2.block _ (by omega) (hF0 _ (by omega)))
  have hs2 := ht.2.size
  replace ht := Lib.hid ht
  have c10 := g1.cell 0
  have c11 := g1.cell 1
  have c12 := g1.cell 2
  have c13 := g1.cell 3
  have c14 := g1.cell 4
  have c15 := g1.cell 5
  have c20 := g2.cell 0
  have c21 := g2.cell 1
  have f20 := g2.frozen 0
  have f21 := g2.frozen 1
  have c30 := g3.cell 0
  have c31 := g3.cell 1
  have f30 := g3.frozen 0
  have f31 := g3.frozen 1
  clear g1 g2 g3
  go_wp2_with fail
  refine bodyPost_ret (v := .agg #[.int .u64 0, .string ByteArray.empty]) (by simp [results, Try.results38, go_sem, c20, c21]; try rfl) rfl ⟨0, ?_, ?_⟩
  · rw [hact.out]; rfl
  · rw [hact.out]
    refine do_end h.out.own hB1.out ht.out ?_
    repeat first | exact Chg.refl _ _ | refine Chg.drew ?_ | refine Chg.alloc ?_ _ | refine Chg.setCell ?_ (.inl ⟨by (first | omega | (simp; done) | (simp; omega)), by (first | omega | (simp; omega))⟩) _
set_option maxRecDepth 100000 in
set_option maxHeartbeats 1000000 in
theorem do_8b (b c o n : Int) (s : ByteArray) (hr : PAct.right ⟨8, b, c, o, n, s⟩ = true) (hsz : s.size ≤ 9223372036854775807) (hb0 : 0 ≤ b) (hn0 : 0 ≤ n ∧ n ≤ 18446744073709551615) (hf : S.faults < 9223372036854775807) (hla : S.last < 9223372036854775807) (hl : S.locked = false) :
    Calls Try.prog 38 #[.pointer (some ⟨hb, 0, none⟩), .agg #[.int .i64 8, .int .u64 b, .int .i64 c, .int .u64 o, .int .u64 n, .string s]] w (DoPost F hb S ⟨8, b, c, o, n, s⟩ w) := by
  have hR := fun W => right_any ⟨8, b, c, o, n, s⟩ W hsz
  rw [hr] at hR
  have hact : ∀ r, S.act ⟨8, b, c, o, n, s⟩ r = (⟨1, ByteArray.empty⟩, S.lock) := by
    intro r
    unfold PHeap.act
    rw [if_neg (by rw [hr]; decide)]
    simp [hl]
  replace hR := Lib.hid hR
  clear hr
  replace hact : Hid _ := Lib.hid hact
  replace h := Lib.hid h
  replace hl := Lib.hid hl
  have B1 := Blk.alloc (Blk.alloc (Blk.new w 31 #[.int .i64 8, .int .u64 b, .int .i64 c, .int .u64 o, .int .u64 n, .string s]) (.cells #[.int .u64 0, .string ⟨#[]⟩] 45)) (.cells #[.int .u64 0, .string ⟨#[]⟩] 45)
  have B2 := Blk.alloc (Blk.new (w.alloc (.cells #[.int .i64 8, .int .u64 b, .int .i64 c, .int .u64 o, .int .u64 n, .string s] 31)) 45 #[.int .u64 0, .string ⟨#[]⟩]) (.cells #[.int .u64 0, .string ⟨#[]⟩] 45)
  have B3 := Blk.new ((w.alloc (.cells #[.int .i64 8, .int .u64 b, .int .i64 c, .int .u64 o, .int .u64 n, .string s] 31)).alloc (.cells #[.int .u64 0, .string ⟨#[]⟩] 45)) 45 #[.int .u64 0, .string ⟨#[]⟩]
  have hW0 : Below w.heap.size w (((w.alloc (.cells #[.int .i64 8, .int .u64 b, .int .i64 c, .int .u64 o, .int .u64 n, .string s] 31)).alloc (.cells #[.int .u64 0, .string ⟨#[]⟩] 45)).alloc (.cells #[.int .u64 0, .string ⟨#[]⟩] 45)) := (((Below.refl _ _).alloc (Nat.le_refl _) _).alloc (by simp) _).alloc (by simp; omega) _
  simp only [World.size_alloc] at B2 B3
  replace B1 := Lib.hid B1
  replace B2 := Lib.hid B2
  replace B3 := Lib.hid B3
  replace hW0 := Lib.hid hW0
  go_enter Try.func38, Try.ntmps38
  go_wp2_with fail
  refine (hR.out _).mono ?_; rintro e w1 ⟨rfl, hb1⟩
  have hB1 := nx hW0.out (Nat.le_refl _) hb1
  have g1 := (B1.out.below hb1 (by simp; omega))
  have g2 := (B2.out.below hb1 (by simp))
  have g3 := (B3.out.below hb1 (by simp))
  have hs := hb1.size
  simp only [World.size_alloc] at hs
  clear hb1
  replace hB1 := Lib.hid hB1
  have c10 := g1.cell 0
  have c11 := g1.cell 1
  have c12 := g1.cell 2
  have c13 := g1.cell 3
  have c14 := g1.cell 4
  have c15 := g1.cell 5
  have c20 := g2.cell 0
  have c21 := g2.cell 1
  have f20 := g2.frozen 0
  have f21 := g2.frozen 1
  have c30 := g3.cell 0
  have c31 := g3.cell 1
  have f30 := g3.frozen 0
  have f31 := g3.frozen 1
  replace g1 := Lib.hid g1
  replace g2 := Lib.hid g2
  replace g3 := Lib.hid g3
  go_wp2_with fail
  refine (lockAs_all (h.out.below hB1.out) false hl.out).mono ?_; rintro e w2 ⟨rfl, ht⟩
  clear c10 c11 c12 c13 c14 c15 c20 c21 f20 f21 c30 c31 f30 f31
  have hF0 : ∀ j, w.heap.size ≤ j → ¬ F j := fun j hj hf => by have := h.out.own j hf; omega
  have g1 := g1.out.keep (ht.2.block _ (by omega) (hF0 _ (by omega)))
  have g2 := g2.out.keep (ht.2.block _ (by omega) (hF0 _ (by omega)))
  have g3 := g3.out.keep (ht.2.block _ (by omega) (hF0 _ (by omega)))
  have hs2 := ht.2.size
  replace ht := Lib.hid ht
  have c10 := g1.cell 0
  have c11 := g1.cell 1
  have c12 := g1.cell 2
  have c13 := g1.cell 3
  have c14 := g1.cell 4
  have c15 := g1.cell 5
  have c20 := g2.cell 0
  have c21 := g2.cell 1
  have f20 := g2.frozen 0
  have f21 := g2.frozen 1
  have c30 := g3.cell 0
  have c31 := g3.cell 1
  have f30 := g3.frozen 0
  have f31 := g3.frozen 1
  clear g1 g2 g3
  go_wp2_with fail
  refine bodyPost_ret (v := .agg #[.int .u64 1, .string ByteArray.empty]) (by simp [results, Try.results38, go_sem, c20, c21]; try rfl) rfl ⟨0, ?_, ?_⟩
  · rw [hact.out]; rfl
  · rw [hact.out]
    refine do_end h.out.own hB1.out ht.out ?_
    repeat first | exact Chg.refl _ _ | refine Chg.drew ?_ | refine Chg.alloc ?_ _ | refine Chg.setCell ?_ (.inl ⟨by (first | omega | (simp; done) | (simp; omega)), by (first | omega | (simp; omega))⟩) _
set_option maxRecDepth 100000 in
set_option maxHeartbeats 1000000 in
theorem do_9 (b c o n : Int) (s : ByteArray) (hr : PAct.right ⟨9, b, c, o, n, s⟩ = true) (hsz : s.size ≤ 9223372036854775807) (hb0 : 0 ≤ b) (hn0 : 0 ≤ n ∧ n ≤ 18446744073709551615) (hf : S.faults < 9223372036854775807) (hla : S.last < 9223372036854775807) :
    Calls Try.prog 38 #[.pointer (some ⟨hb, 0, none⟩), .agg #[.int .i64 9, .int .u64 b, .int .i64 c, .int .u64 o, .int .u64 n, .string s]] w (DoPost F hb S ⟨9, b, c, o, n, s⟩ w) := by
  have hR := fun W => right_any ⟨9, b, c, o, n, s⟩ W hsz
  rw [hr] at hR
  have hact : ∀ r, S.act ⟨9, b, c, o, n, s⟩ r = (⟨0, ByteArray.empty⟩, S.unlock) := by
    intro r
    unfold PHeap.act
    rw [if_neg (by rw [hr]; decide)]
    simp
  replace hR := Lib.hid hR
  clear hr
  replace hact : Hid _ := Lib.hid hact
  replace h := Lib.hid h
  have B1 := Blk.alloc (Blk.alloc (Blk.new w 31 #[.int .i64 9, .int .u64 b, .int .i64 c, .int .u64 o, .int .u64 n, .string s]) (.cells #[.int .u64 0, .string ⟨#[]⟩] 45)) (.cells #[.int .u64 0, .string ⟨#[]⟩] 45)
  have B2 := Blk.alloc (Blk.new (w.alloc (.cells #[.int .i64 9, .int .u64 b, .int .i64 c, .int .u64 o, .int .u64 n, .string s] 31)) 45 #[.int .u64 0, .string ⟨#[]⟩]) (.cells #[.int .u64 0, .string ⟨#[]⟩] 45)
  have B3 := Blk.new ((w.alloc (.cells #[.int .i64 9, .int .u64 b, .int .i64 c, .int .u64 o, .int .u64 n, .string s] 31)).alloc (.cells #[.int .u64 0, .string ⟨#[]⟩] 45)) 45 #[.int .u64 0, .string ⟨#[]⟩]
  have hW0 : Below w.heap.size w (((w.alloc (.cells #[.int .i64 9, .int .u64 b, .int .i64 c, .int .u64 o, .int .u64 n, .string s] 31)).alloc (.cells #[.int .u64 0, .string ⟨#[]⟩] 45)).alloc (.cells #[.int .u64 0, .string ⟨#[]⟩] 45)) := (((Below.refl _ _).alloc (Nat.le_refl _) _).alloc (by simp) _).alloc (by simp; omega) _
  simp only [World.size_alloc] at B2 B3
  replace B1 := Lib.hid B1
  replace B2 := Lib.hid B2
  replace B3 := Lib.hid B3
  replace hW0 := Lib.hid hW0
  go_enter Try.func38, Try.ntmps38
  go_wp2_with fail
  refine (hR.out _).mono ?_; rintro e w1 ⟨rfl, hb1⟩
  have hB1 := nx hW0.out (Nat.le_refl _) hb1
  have g1 := (B1.out.below hb1 (by simp; omega))
  have g2 := (B2.out.below hb1 (by simp))
  have g3 := (B3.out.below hb1 (by simp))
  have hs := hb1.size
  simp only [World.size_alloc] at hs
  clear hb1
  replace hB1 := Lib.hid hB1
  have c10 := g1.cell 0
  have c11 := g1.cell 1
  have c12 := g1.cell 2
  have c13 := g1.cell 3
  have c14 := g1.cell 4
  have c15 := g1.cell 5
  have c20 := g2.cell 0
  have c21 := g2.cell 1
  have f20 := g2.frozen 0
  have f21 := g2.frozen 1
  have c30 := g3.cell 0
  have c31 := g3.cell 1
  have f30 := g3.frozen 0
  have f31 := g3.frozen 1
  replace g1 := Lib.hid g1
  replace g2 := Lib.hid g2
  replace g3 := Lib.hid g3
  go_wp2_with fail
  refine (unlock_all (h.out.below hB1.out) hf).mono ?_; rintro e w2 ⟨rfl, ht⟩
  clear c10 c11 c12 c13 c14 c15 c20 c21 f20 f21 c30 c31 f30 f31
  have hF0 : ∀ j, w.heap.size ≤ j → ¬ F j := fun j hj hf => by have := h.out.own j hf; omega
  have g1 := g1.out.keep (ht.2.block _ (by omega) (hF0 _ (by omega)))
  have g2 := g2.out.keep (ht.2.block _ (by omega) (hF0 _ (by omega)))
  have g3 := g3.out.keep (ht.2.block _ (by omega) (hF0 _ (by omega)))
  have hs2 := ht.2.size
  replace ht := Lib.hid ht
  have c10 := g1.cell 0
  have c11 := g1.cell 1
  have c12 := g1.cell 2
  have c13 := g1.cell 3
  have c14 := g1.cell 4
  have c15 := g1.cell 5
  have c20 := g2.cell 0
  have c21 := g2.cell 1
  have f20 := g2.frozen 0
  have f21 := g2.frozen 1
  have c30 := g3.cell 0
  have c31 := g3.cell 1
  have f30 := g3.frozen 0
  have f31 := g3.frozen 1
  clear g1 g2 g3
  go_wp2_with fail
  refine bodyPost_ret (v := .agg #[.int .u64 0, .string ByteArray.empty]) (by simp [results, Try.results38, go_sem, c20, c21]; try rfl) rfl ⟨0, ?_, ?_⟩
  · rw [hact.out]; rfl
  · rw [hact.out]
    refine do_end h.out.own hB1.out ht.out ?_
    repeat first | exact Chg.refl _ _ | refine Chg.drew ?_ | refine Chg.alloc ?_ _ | refine Chg.setCell ?_ (.inl ⟨by (first | omega | (simp; done) | (simp; omega)), by (first | omega | (simp; omega))⟩) _
set_option maxRecDepth 100000 in
set_option maxHeartbeats 1000000 in
theorem do_0 (b c o n : Int) (s : ByteArray) (hr : PAct.right ⟨0, b, c, o, n, s⟩ = true) (hsz : s.size ≤ 9223372036854775807) (hb0 : 0 ≤ b) (hn0 : 0 ≤ n ∧ n ≤ 18446744073709551615) (hf : S.faults < 9223372036854775807) (hla : S.last < 9223372036854775807) :
    Calls Try.prog 38 #[.pointer (some ⟨hb, 0, none⟩), .agg #[.int .i64 0, .int .u64 b, .int .i64 c, .int .u64 o, .int .u64 n, .string s]] w (DoPost F hb S ⟨0, b, c, o, n, s⟩ w) := by
  have hR := fun W => right_any ⟨0, b, c, o, n, s⟩ W hsz
  rw [hr] at hR
  have hact : ∀ r, S.act ⟨0, b, c, o, n, s⟩ r = (⟨0, ByteArray.empty⟩, S) := by
    intro r
    unfold PHeap.act
    rw [if_neg (by rw [hr]; decide)]
    simp
  replace hR := Lib.hid hR
  clear hr
  replace hact : Hid _ := Lib.hid hact
  replace h := Lib.hid h
  have B1 := Blk.alloc (Blk.alloc (Blk.new w 31 #[.int .i64 0, .int .u64 b, .int .i64 c, .int .u64 o, .int .u64 n, .string s]) (.cells #[.int .u64 0, .string ⟨#[]⟩] 45)) (.cells #[.int .u64 0, .string ⟨#[]⟩] 45)
  have B2 := Blk.alloc (Blk.new (w.alloc (.cells #[.int .i64 0, .int .u64 b, .int .i64 c, .int .u64 o, .int .u64 n, .string s] 31)) 45 #[.int .u64 0, .string ⟨#[]⟩]) (.cells #[.int .u64 0, .string ⟨#[]⟩] 45)
  have B3 := Blk.new ((w.alloc (.cells #[.int .i64 0, .int .u64 b, .int .i64 c, .int .u64 o, .int .u64 n, .string s] 31)).alloc (.cells #[.int .u64 0, .string ⟨#[]⟩] 45)) 45 #[.int .u64 0, .string ⟨#[]⟩]
  have hW0 : Below w.heap.size w (((w.alloc (.cells #[.int .i64 0, .int .u64 b, .int .i64 c, .int .u64 o, .int .u64 n, .string s] 31)).alloc (.cells #[.int .u64 0, .string ⟨#[]⟩] 45)).alloc (.cells #[.int .u64 0, .string ⟨#[]⟩] 45)) := (((Below.refl _ _).alloc (Nat.le_refl _) _).alloc (by simp) _).alloc (by simp; omega) _
  simp only [World.size_alloc] at B2 B3
  replace B1 := Lib.hid B1
  replace B2 := Lib.hid B2
  replace B3 := Lib.hid B3
  replace hW0 := Lib.hid hW0
  go_enter Try.func38, Try.ntmps38
  go_wp2_with fail
  refine (hR.out _).mono ?_; rintro e w1 ⟨rfl, hb1⟩
  have hB1 := nx hW0.out (Nat.le_refl _) hb1
  have g1 := (B1.out.below hb1 (by simp; omega))
  have g2 := (B2.out.below hb1 (by simp))
  have g3 := (B3.out.below hb1 (by simp))
  have hs := hb1.size
  simp only [World.size_alloc] at hs
  clear hb1
  replace hB1 := Lib.hid hB1
  have c10 := g1.cell 0
  have c11 := g1.cell 1
  have c12 := g1.cell 2
  have c13 := g1.cell 3
  have c14 := g1.cell 4
  have c15 := g1.cell 5
  have c20 := g2.cell 0
  have c21 := g2.cell 1
  have f20 := g2.frozen 0
  have f21 := g2.frozen 1
  have c30 := g3.cell 0
  have c31 := g3.cell 1
  have f30 := g3.frozen 0
  have f31 := g3.frozen 1
  replace g1 := Lib.hid g1
  replace g2 := Lib.hid g2
  replace g3 := Lib.hid g3
  go_wp2_with fail
  refine bodyPost_ret (v := .agg #[.int .u64 0, .string ByteArray.empty]) (by simp [results, Try.results38, go_sem, c20, c21]; try rfl) rfl ⟨0, ?_, ?_⟩
  · rw [hact.out]; rfl
  · rw [hact.out]
    refine do_end h.out.own hB1.out (Turned.still (h.out.below hB1.out) (Below.refl _ _)) ?_
    repeat first | exact Chg.refl _ _ | refine Chg.drew ?_ | refine Chg.alloc ?_ _ | refine Chg.setCell ?_ (.inl ⟨by (first | omega | (simp; done) | (simp; omega)), by (first | omega | (simp; omega))⟩) _
theorem do_any (x : PAct) (hx : x.Ok) (hf : S.faults < 9223372036854775807) (hla : S.last < 9223372036854775807) :
    Calls Try.prog 38 #[.pointer (some ⟨hb, 0, none⟩), x.val] w (DoPost F hb S x w) := by
  by_cases hr : x.right = true
  · obtain ⟨k, b, c, o, n, s⟩ := x
    have hk : k = 0 ∨ k = 1 ∨ k = 2 ∨ k = 3 ∨ k = 4 ∨ k = 5 ∨ k = 6 ∨ k = 7 ∨ k = 8 ∨ k = 9 ∨ k = 10 := by
      have h1 := hr
      unfold PAct.right PAct.fit at h1
      simp only [Bool.and_eq_true] at h1
      have h2 := h1.2
      by_cases h3 : k = 0 ∨ k = 1 ∨ k = 2 ∨ k = 3 ∨ k = 4 ∨ k = 5 ∨ k = 6 ∨ k = 7 ∨ k = 8 ∨ k = 9 ∨ k = 10
      · exact h3
      · rw [if_neg (by omega), if_neg (by omega), if_neg (by omega), if_neg (by omega), if_neg (by omega), if_neg (by omega)] at h2
        cases h2
    obtain ⟨h1, h2, h3, h4, h5, h6⟩ := hx
    rcases hk with rfl | rfl | rfl | rfl | rfl | rfl | rfl | rfl | rfl | rfl | rfl
    · exact do_0 h b c o n s hr h6 h2.1 h5 hf hla
    · exact do_1 h b c o n s hr h6 h2.1 h5 hf hla
    · exact do_2 h b c o n s hr h6 h2.1 h5 hf hla
    · exact do_3 h b c o n s hr h6 h2.1 h5 hf hla
    · exact do_4 h b c o n s hr h6 h2.1 h5 hf hla
    · exact do_5 h b c o n s hr h6 h2.1 h5 hf hla
    · exact do_6 h b c o n s hr h6 h2.1 h5 hf hla
    · exact do_7 h b c o n s hr h6 h2.1 h5 hf hla
    · by_cases hl : S.locked = true
      · exact do_8a h b c o n s hr h6 h2.1 h5 hf hla hl
      · exact do_8b h b c o n s hr h6 h2.1 h5 hf hla (by simpa using hl)
    · exact do_9 h b c o n s hr h6 h2.1 h5 hf hla
    · exact do_10 h b c o n s hr h6 h2.1 h5 hf hla
  · exact do_no h x hx (by simpa using hr)
end
end Go.Proofs.Ytpldnbdcpihjcaa
