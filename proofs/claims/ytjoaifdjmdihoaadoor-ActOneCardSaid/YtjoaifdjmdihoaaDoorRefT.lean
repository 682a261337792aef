/-
  philtreref18.Do on the document's heap. No condition. (Printed out of XDo2 by tools/rdo.py.)
-/
import Derived.Test.YtjoaifdjmdihoaaDoorRefS
import Derived.Test.YtjoaifdjmdihoaaDoorRefM
import Derived.Test.YtjoaifdjmdihoaaDoorFr
namespace Go.Proofs.YtjoaifdjmdihoaaDoor
set_option linter.unusedVariables false
open Go.ChangeShapes Go.WideShapes Go.ChangeAt Go.RowKit
open Go.ChangeMaps (setBlock)

/-- The heap has turned in a call within; what the caller itself has made meanwhile may turn besides. -/
theorem rdo_end {w w1 w2 w3 : World} {F : Nat → Prop} {hb : Nat} {S' : PHeap} (hF : In F w) (hb1 : Below w.heap.size w w1) (t : RTurned F hb S' w1 w2) (hc : Chg (fun k => w.heap.size ≤ k ∧ k < w1.heap.size) w2 w3) : RTurned F hb S' w w3 := by
  have s1 := hb1.size
  have s2 := t.2.size
  have s3 := hc.size
  have hch : Chg F w w2 := (Chg.of_below hb1 F).trans t.2 fun _ h => .inl h
  refine ⟨(t.1.keep hc.size fun k hk => hc.block k (t.1.own k hk) ?_).mono (hF.nw (by omega)) ?_, hch.trans hc fun k hk => .inr hk.1⟩
  · rintro ⟨h1, h2⟩
    rcases hk with hk | hk
    · have := hF k hk; omega
    · omega
  · rintro k (hk | hk)
    · exact .inl hk
    · exact .inr ⟨by omega, by omega⟩
theorem rret_got {a b : Int} {s t : ByteArray} (h : a = b) (k : s = t) : Ending.returned (.agg #[.int .u64 a, .string s]) = .returned (.agg #[.int .u64 b, .string t]) := by rw [h, k]

theorem make_fst (S : PHeap) (n : Int) (t : ByteArray) (r : Nat) : (S.make n t r).1 = (S.make n t 0).1 := by unfold PHeap.make; split <;> rfl
section
variable {w : World} {hb : Nat} {S : PHeap} {F : Nat → Prop} (h : RefIn w hb S F)
include h
def RDoPost (F : Nat → Prop) (hb : Nat) (S : PHeap) (x : PAct) (w : World) (e : Ending) (w' : World) : Prop := ∀ r, e = .returned (S.act x r).1.val ∧ RTurned F hb (S.act x r).2 w w'
set_option maxRecDepth 100000 in
set_option maxHeartbeats 1000000 in
theorem rdo_no (x : PAct) (hx : x.Ok) (hr : x.right = false) :
    Calls Tryd.prog 16 #[.pointer (some ⟨hb, 0, none⟩), x.val] w (RDoPost F hb S x w) := by
  have hR := fun W => rright_any x W hx.text
  rw [hr] at hR
  have hp : ∀ (e : Ending) (w' : World), e = .returned (.agg #[.int .u64 0, .string ByteArray.empty]) → Below w.heap.size w w' → RDoPost F hb S x w e w' := by
    rintro e w' rfl hb'
    refine fun r0 => ⟨?_, ?_⟩
    · unfold PHeap.act; rw [if_pos hr]; rfl
    · unfold PHeap.act; rw [if_pos hr]; exact RTurned.still h hb'
  replace hR := Lib.hid hR
  replace hp := Lib.hid hp
  clear hr h
  have hv : x.val = .agg #[.int .i64 x.kind, .int .u64 x.block, .int .i64 x.cell, .int .u64 x.old, .int .u64 x.new, .string x.text] := rfl
  rw [hv] at hR ⊢
  clear hv
  generalize x.kind = k at *
  generalize x.block = b at *
  generalize x.cell = c at *
  generalize x.old = o at *
  generalize x.new = n at *
  generalize x.text = s at *
  have B1 := Blk.alloc (Blk.alloc (Blk.new w 34 #[.int .i64 k, .int .u64 b, .int .i64 c, .int .u64 o, .int .u64 n, .string s]) (.cells #[.int .u64 0, .string ⟨#[]⟩] 38)) (.cells #[.int .u64 0, .string ⟨#[]⟩] 38)
  have B2 := Blk.alloc (Blk.new (w.alloc (.cells #[.int .i64 k, .int .u64 b, .int .i64 c, .int .u64 o, .int .u64 n, .string s] 34)) 38 #[.int .u64 0, .string ⟨#[]⟩]) (.cells #[.int .u64 0, .string ⟨#[]⟩] 38)
  have B3 := Blk.new ((w.alloc (.cells #[.int .i64 k, .int .u64 b, .int .i64 c, .int .u64 o, .int .u64 n, .string s] 34)).alloc (.cells #[.int .u64 0, .string ⟨#[]⟩] 38)) 38 #[.int .u64 0, .string ⟨#[]⟩]
  simp only [World.size_alloc] at B2 B3
  replace B1 := Lib.hid B1
  replace B2 := Lib.hid B2
  replace B3 := Lib.hid B3
  go_enter Tryd.func16, Tryd.ntmps16
  go_wp2_with fail
  refine (hR.out _).mono ?_; rintro e w1 ⟨rfl, hb1⟩
  have g2 := (B2.out.below hb1 (by simp))
  have g3 := (B3.out.below hb1 (by simp))
  have c20 := g2.cell 0
  have c21 := g2.cell 1
  have f20 := g2.frozen 0
  have f21 := g2.frozen 1
  have c30 := g3.cell 0
  have c31 := g3.cell 1
  have hs := hb1.size
  simp only [World.size_alloc] at hs
  clear g2 g3
  have hB1 : Below w.heap.size w w1 := nx ((((Below.refl _ _).alloc (Nat.le_refl _) _).alloc (by simp) _).alloc (by simp; omega) _) (Nat.le_refl _) hb1
  clear hb1
  go_wp2_with fail
  refine bodyPost_ret (v := .agg #[.int .u64 0, .string ByteArray.empty]) (by simp [results, Tryd.results16, go_sem, c20, c21]; try rfl) rfl (hp.out _ _ rfl ?_)
  (repeat first | exact Below.refl _ _ | assumption | refine Below.drew ?_ | refine below_drewN ?_ _ | refine Below.more_ ?_ _ | refine Below.setCell ?_ (by first | exact Nat.le_refl _ | (simp; done) | (simp; omega)) _)
theorem rloadEx_all (b j : Int) (hb0 : 0 ≤ b) (hl : S.last ≤ 1000000) (hf : S.faults ≤ 1000000000) :
    Calls Tryd.prog 30 #[.pointer (some ⟨hb, 0, none⟩), .int .u64 b, .int .i64 j] w fun e w' => e = .returned (.tuple #[.int .u64 (S.load b j).1, .int .i64 (S.code b j)]) ∧ RTurned F hb (S.load b j).2 w w' :=
  (rload_any h b j hb0 hl hf).mono fun _ _ ⟨he, ht, _⟩ => ⟨he, ht⟩
theorem rlockAs_all (l : Bool) (hl : S.locked = l) : Calls Tryd.prog 43 #[.pointer (some ⟨hb, 0, none⟩)] w fun e w' => e = .returned (.bool (!l)) ∧ RTurned F hb S.lock w w' := by
  rw [← hl]
  exact rlock_any h
theorem rwordsEx_all (b : Int) (hb0 : 0 ≤ b) (hl : S.last ≤ 1000000) (hf : S.faults ≤ 1000000000) :
    Calls Tryd.prog 41 #[.pointer (some ⟨hb, 0, none⟩), .int .u64 b] w fun e w' => ∃ cd, e = .returned (.tuple #[.string (S.words b).1, .int .i64 cd]) ∧ RTurned F hb (S.words b).2 w w' :=
  (rwords_any h b hb0 hl hf).mono fun _ _ ⟨he, ht⟩ => ⟨_, he, ht⟩
theorem rdropEx_all (b : Int) (hb0 : 0 ≤ b) (hl : S.last ≤ 1000000) (hf : S.faults ≤ 1000000000) :
    Calls Tryd.prog 42 #[.pointer (some ⟨hb, 0, none⟩), .int .u64 b] w fun e w' => ∃ cd, e = .returned (.int .i64 cd) ∧ RTurned F hb (S.drop b) w w' :=
  (rdrop_any h b hb0 hl hf).mono fun _ _ ⟨he, ht⟩ => ⟨_, he, ht⟩
set_option maxRecDepth 100000 in
set_option maxHeartbeats 1000000 in
theorem rdo_1 (b c o n : Int) (s : ByteArray) (hr : PAct.right ⟨1, b, c, o, n, s⟩ = true) (hsz : s.size ≤ 9223372036854775807) (hb0 : 0 ≤ b) (hn0 : 0 ≤ n ∧ n ≤ 18446744073709551615) (hf : S.faults ≤ 1000000000) (hla : S.last ≤ 1000000) :
    Calls Tryd.prog 16 #[.pointer (some ⟨hb, 0, none⟩), .agg #[.int .i64 1, .int .u64 b, .int .i64 c, .int .u64 o, .int .u64 n, .string s]] w (RDoPost F hb S ⟨1, b, c, o, n, s⟩ w) := by
  have hR := fun W => rright_any ⟨1, b, c, o, n, s⟩ W hsz
  rw [hr] at hR
  have hact : ∀ r, S.act ⟨1, b, c, o, n, s⟩ r = (⟨(S.load b c).1, ByteArray.empty⟩, (S.load b c).2) := by
    intro r
    unfold PHeap.act
    rw [if_neg (by rw [hr]; decide)]
    simp
  replace hR := Lib.hid hR
  clear hr
  replace hact : Hid _ := Lib.hid hact
  replace h := Lib.hid h
  have B1 := Blk.alloc (Blk.alloc (Blk.new w 34 #[.int .i64 1, .int .u64 b, .int .i64 c, .int .u64 o, .int .u64 n, .string s]) (.cells #[.int .u64 0, .string ⟨#[]⟩] 38)) (.cells #[.int .u64 0, .string ⟨#[]⟩] 38)
  have B2 := Blk.alloc (Blk.new (w.alloc (.cells #[.int .i64 1, .int .u64 b, .int .i64 c, .int .u64 o, .int .u64 n, .string s] 34)) 38 #[.int .u64 0, .string ⟨#[]⟩]) (.cells #[.int .u64 0, .string ⟨#[]⟩] 38)
  have B3 := Blk.new ((w.alloc (.cells #[.int .i64 1, .int .u64 b, .int .i64 c, .int .u64 o, .int .u64 n, .string s] 34)).alloc (.cells #[.int .u64 0, .string ⟨#[]⟩] 38)) 38 #[.int .u64 0, .string ⟨#[]⟩]
  have hW0 : Below w.heap.size w (((w.alloc (.cells #[.int .i64 1, .int .u64 b, .int .i64 c, .int .u64 o, .int .u64 n, .string s] 34)).alloc (.cells #[.int .u64 0, .string ⟨#[]⟩] 38)).alloc (.cells #[.int .u64 0, .string ⟨#[]⟩] 38)) := (((Below.refl _ _).alloc (Nat.le_refl _) _).alloc (by simp) _).alloc (by simp; omega) _
  simp only [World.size_alloc] at B2 B3
  replace B1 := Lib.hid B1
  replace B2 := Lib.hid B2
  replace B3 := Lib.hid B3
  replace hW0 := Lib.hid hW0
  go_enter Tryd.func16, Tryd.ntmps16
  go_wp2_with fail
  refine (hR.out _).mono ?_; rintro e w1 ⟨rfl, hb1⟩
  have hB1 := nx hW0.out (Nat.le_refl _) hb1
  have g1 := (B1.out.below hb1 (by simp; omega))
  have g2 := (B2.out.below hb1 (by simp))
  have g3 := (B3.out.below hb1 (by simp))
  have hs := hb1.size
  simp only [World.size_alloc] at hs
  clear hb1
  replace hB1 := Lib.hid hB1
  have c10 := g1.cell 0
  have c11 := g1.cell 1
  have c12 := g1.cell 2
  have c13 := g1.cell 3
  have c14 := g1.cell 4
  have c15 := g1.cell 5
  have c20 := g2.cell 0
  have c21 := g2.cell 1
  have f20 := g2.frozen 0
  have f21 := g2.frozen 1
  have c30 := g3.cell 0
  have c31 := g3.cell 1
  have f30 := g3.frozen 0
  have f31 := g3.frozen 1
  replace g1 := Lib.hid g1
  replace g2 := Lib.hid g2
  replace g3 := Lib.hid g3
  go_wp2_with fail
  refine (rloadEx_all (h.out.below hB1.out) b c hb0 hla hf).mono ?_; rintro e w2 ⟨rfl, ht⟩
  clear c10 c11 c12 c13 c14 c15 c20 c21 f20 f21 c30 c31 f30 f31
  have hF0 : ∀ j, w.heap.size ≤ j → ¬ F j := fun j hj hf => by have := h.out.own j hf; omega
  have g1 := g1.out.keep (ht.2.block _ (by omega) (hF0 _ (by omega)))
  have g2 := g2.out.keep (ht.2.block _ (by omega) (hF0 _ (by omega)))
  have g3 := g3.out.keep (ht.2.block _ (by omega) (hF0 _ (by omega)))
  have hs2 := ht.2.size
  replace ht := Lib.hid ht
  have c10 := g1.cell 0
  have c11 := g1.cell 1
  have c12 := g1.cell 2
  have c13 := g1.cell 3
  have c14 := g1.cell 4
  have c15 := g1.cell 5
  have c20 := g2.cell 0
  have c21 := g2.cell 1
  have f20 := g2.frozen 0
  have f21 := g2.frozen 1
  have c30 := g3.cell 0
  have c31 := g3.cell 1
  have f30 := g3.frozen 0
  have f31 := g3.frozen 1
  clear g1 g2 g3
  go_wp2_with fail
  refine bodyPost_ret (v := .agg #[.int .u64 (S.load b c).1, .string ByteArray.empty]) (by simp [results, Tryd.results16, go_sem, c20, c21]; try rfl) rfl (fun r0 => ⟨?_, ?_⟩)
  · rw [hact.out]; rfl
  · rw [hact.out]
    refine rdo_end h.out.own hB1.out ht.out ?_
    repeat first | exact Chg.refl _ _ | refine Chg.drew ?_ | refine Chg.alloc ?_ _ | refine Chg.setCell ?_ (.inl ⟨by (first | omega | (simp; done) | (simp; omega)), by (first | omega | (simp; omega))⟩) _
set_option maxRecDepth 100000 in
set_option maxHeartbeats 1000000 in
theorem rdo_10 (b c o n : Int) (s : ByteArray) (hr : PAct.right ⟨10, b, c, o, n, s⟩ = true) (hsz : s.size ≤ 9223372036854775807) (hb0 : 0 ≤ b) (hn0 : 0 ≤ n ∧ n ≤ 18446744073709551615) (hf : S.faults ≤ 1000000000) (hla : S.last ≤ 1000000) :
    Calls Tryd.prog 16 #[.pointer (some ⟨hb, 0, none⟩), .agg #[.int .i64 10, .int .u64 b, .int .i64 c, .int .u64 o, .int .u64 n, .string s]] w (RDoPost F hb S ⟨10, b, c, o, n, s⟩ w) := by
  have hR := fun W => rright_any ⟨10, b, c, o, n, s⟩ W hsz
  rw [hr] at hR
  have hact : ∀ r, S.act ⟨10, b, c, o, n, s⟩ r = (⟨(S.load b c).1, ByteArray.empty⟩, (S.load b c).2) := by
    intro r
    unfold PHeap.act
    rw [if_neg (by rw [hr]; decide)]
    simp
  replace hR := Lib.hid hR
  clear hr
  replace hact : Hid _ := Lib.hid hact
  replace h := Lib.hid h
  have B1 := Blk.alloc (Blk.alloc (Blk.new w 34 #[.int .i64 10, .int .u64 b, .int .i64 c, .int .u64 o, .int .u64 n, .string s]) (.cells #[.int .u64 0, .string ⟨#[]⟩] 38)) (.cells #[.int .u64 0, .string ⟨#[]⟩] 38)
  have B2 := Blk.alloc (Blk.new (w.alloc (.cells #[.int .i64 10, .int .u64 b, .int .i64 c, .int .u64 o, .int .u64 n, .string s] 34)) 38 #[.int .u64 0, .string ⟨#[]⟩]) (.cells #[.int .u64 0, .string ⟨#[]⟩] 38)
  have B3 := Blk.new ((w.alloc (.cells #[.int .i64 10, .int .u64 b, .int .i64 c, .int .u64 o, .int .u64 n, .string s] 34)).alloc (.cells #[.int .u64 0, .string ⟨#[]⟩] 38)) 38 #[.int .u64 0, .string ⟨#[]⟩]
  have hW0 : Below w.heap.size w (((w.alloc (.cells #[.int .i64 10, .int .u64 b, .int .i64 c, .int .u64 o, .int .u64 n, .string s] 34)).alloc (.cells #[.int .u64 0, .string ⟨#[]⟩] 38)).alloc (.cells #[.int .u64 0, .string ⟨#[]⟩] 38)) := (((Below.refl _ _).alloc (Nat.le_refl _) _).alloc (by simp) _).alloc (by simp; omega) _
  simp only [World.size_alloc] at B2 B3
  replace B1 := Lib.hid B1
  replace B2 := Lib.hid B2
  replace B3 := Lib.hid B3
  replace hW0 := Lib.hid hW0
  go_enter Tryd.func16, Tryd.ntmps16
  go_wp2_with fail
  refine (hR.out _).mono ?_; rintro e w1 ⟨rfl, hb1⟩
  have hB1 := nx hW0.out (Nat.le_refl _) hb1
  have g1 := (B1.out.below hb1 (by simp; omega))
  have g2 := (B2.out.below hb1 (by simp))
  have g3 := (B3.out.below hb1 (by simp))
  have hs := hb1.size
  simp only [World.size_alloc] at hs
  clear hb1
  replace hB1 := Lib.hid hB1
  have c10 := g1.cell 0
  have c11 := g1.cell 1
  have c12 := g1.cell 2
  have c13 := g1.cell 3
  have c14 := g1.cell 4
  have c15 := g1.cell 5
  have c20 := g2.cell 0
  have c21 := g2.cell 1
  have f20 := g2.frozen 0
  have f21 := g2.frozen 1
  have c30 := g3.cell 0
  have c31 := g3.cell 1
  have f30 := g3.frozen 0
  have f31 := g3.frozen 1
  replace g1 := Lib.hid g1
  replace g2 := Lib.hid g2
  replace g3 := Lib.hid g3
  go_wp2_with fail
  refine (rloadEx_all (h.out.below hB1.out) b c hb0 hla hf).mono ?_; rintro e w2 ⟨rfl, ht⟩
  clear c10 c11 c12 c13 c14 c15 c20 c21 f20 f21 c30 c31 f30 f31
  have hF0 : ∀ j, w.heap.size ≤ j → ¬ F j := fun j hj hf => by have := h.out.own j hf; omega
  have g1 := g1.out.keep (ht.2.block _ (by omega) (hF0 _ (by omega)))
  have g2 := g2.out.keep (ht.2.block _ (by omega) (hF0 _ (by omega)))
  have g3 := g3.out.keep (ht.2.block _ (by omega) (hF0 _ (by omega)))
  have hs2 := ht.2.size
  replace ht := Lib.hid ht
  have c10 := g1.cell 0
  have c11 := g1.cell 1
  have c12 := g1.cell 2
  have c13 := g1.cell 3
  have c14 := g1.cell 4
  have c15 := g1.cell 5
  have c20 := g2.cell 0
  have c21 := g2.cell 1
  have f20 := g2.frozen 0
  have f21 := g2.frozen 1
  have c30 := g3.cell 0
  have c31 := g3.cell 1
  have f30 := g3.frozen 0
  have f31 := g3.frozen 1
  clear g1 g2 g3
  go_wp2_with fail
  refine bodyPost_ret (v := .agg #[.int .u64 (S.load b c).1, .string ByteArray.empty]) (by simp [results, Tryd.results16, go_sem, c20, c21]; try rfl) rfl (fun r0 => ⟨?_, ?_⟩)
  · rw [hact.out]; rfl
  · rw [hact.out]
    refine rdo_end h.out.own hB1.out ht.out ?_
    repeat first | exact Chg.refl _ _ | refine Chg.drew ?_ | refine Chg.alloc ?_ _ | refine Chg.setCell ?_ (.inl ⟨by (first | omega | (simp; done) | (simp; omega)), by (first | omega | (simp; omega))⟩) _
set_option maxRecDepth 100000 in
set_option maxHeartbeats 1000000 in
theorem rdo_2 (b c o n : Int) (s : ByteArray) (hr : PAct.right ⟨2, b, c, o, n, s⟩ = true) (hsz : s.size ≤ 9223372036854775807) (hb0 : 0 ≤ b) (hn0 : 0 ≤ n ∧ n ≤ 18446744073709551615) (hf : S.faults ≤ 1000000000) (hla : S.last ≤ 1000000) :
    Calls Tryd.prog 16 #[.pointer (some ⟨hb, 0, none⟩), .agg #[.int .i64 2, .int .u64 b, .int .i64 c, .int .u64 o, .int .u64 n, .string s]] w (RDoPost F hb S ⟨2, b, c, o, n, s⟩ w) := by
  have hR := fun W => rright_any ⟨2, b, c, o, n, s⟩ W hsz
  rw [hr] at hR
  have hact : ∀ r, S.act ⟨2, b, c, o, n, s⟩ r = (⟨0, ByteArray.empty⟩, S.store b c n) := by
    intro r
    unfold PHeap.act
    rw [if_neg (by rw [hr]; decide)]
    simp
  replace hR := Lib.hid hR
  clear hr
  replace hact : Hid _ := Lib.hid hact
  replace h := Lib.hid h
  have B1 := Blk.alloc (Blk.alloc (Blk.new w 34 #[.int .i64 2, .int .u64 b, .int .i64 c, .int .u64 o, .int .u64 n, .string s]) (.cells #[.int .u64 0, .string ⟨#[]⟩] 38)) (.cells #[.int .u64 0, .string ⟨#[]⟩] 38)
  have B2 := Blk.alloc (Blk.new (w.alloc (.cells #[.int .i64 2, .int .u64 b, .int .i64 c, .int .u64 o, .int .u64 n, .string s] 34)) 38 #[.int .u64 0, .string ⟨#[]⟩]) (.cells #[.int .u64 0, .string ⟨#[]⟩] 38)
  have B3 := Blk.new ((w.alloc (.cells #[.int .i64 2, .int .u64 b, .int .i64 c, .int .u64 o, .int .u64 n, .string s] 34)).alloc (.cells #[.int .u64 0, .string ⟨#[]⟩] 38)) 38 #[.int .u64 0, .string ⟨#[]⟩]
  have hW0 : Below w.heap.size w (((w.alloc (.cells #[.int .i64 2, .int .u64 b, .int .i64 c, .int .u64 o, .int .u64 n, .string s] 34)).alloc (.cells #[.int .u64 0, .string ⟨#[]⟩] 38)).alloc (.cells #[.int .u64 0, .string ⟨#[]⟩] 38)) := (((Below.refl _ _).alloc (Nat.le_refl _) _).alloc (by simp) _).alloc (by simp; omega) _
  simp only [World.size_alloc] at B2 B3
  replace B1 := Lib.hid B1
  replace B2 := Lib.hid B2
  replace B3 := Lib.hid B3
  replace hW0 := Lib.hid hW0
  go_enter Tryd.func16, Tryd.ntmps16
  go_wp2_with fail
  refine (hR.out _).mono ?_; rintro e w1 ⟨rfl, hb1⟩
  have hB1 := nx hW0.out (Nat.le_refl _) hb1
  have g1 := (B1.out.below hb1 (by simp; omega))
  have g2 := (B2.out.below hb1 (by simp))
  have g3 := (B3.out.below hb1 (by simp))
  have hs := hb1.size
  simp only [World.size_alloc] at hs
  clear hb1
  replace hB1 := Lib.hid hB1
  have c10 := g1.cell 0
  have c11 := g1.cell 1
  have c12 := g1.cell 2
  have c13 := g1.cell 3
  have c14 := g1.cell 4
  have c15 := g1.cell 5
  have c20 := g2.cell 0
  have c21 := g2.cell 1
  have f20 := g2.frozen 0
  have f21 := g2.frozen 1
  have c30 := g3.cell 0
  have c31 := g3.cell 1
  have f30 := g3.frozen 0
  have f31 := g3.frozen 1
  replace g1 := Lib.hid g1
  replace g2 := Lib.hid g2
  replace g3 := Lib.hid g3
  go_wp2_with fail
  refine (rstore_any (h.out.below hB1.out) b c n hb0 hla hf).mono ?_; rintro e w2 ⟨rfl, ht⟩
  clear c10 c11 c12 c13 c14 c15 c20 c21 f20 f21 c30 c31 f30 f31
  have hF0 : ∀ j, w.heap.size ≤ j → ¬ F j := fun j hj hf => by have := h.out.own j hf; omega
  have g1 := g1.out.keep (ht.2.block _ (by omega) (hF0 _ (by omega)))
  have g2 := g2.out.keep (ht.2.block _ (by omega) (hF0 _ (by omega)))
  have g3 := g3.out.keep (ht.2.block _ (by omega) (hF0 _ (by omega)))
  have hs2 := ht.2.size
  replace ht := Lib.hid ht
  have c10 := g1.cell 0
  have c11 := g1.cell 1
  have c12 := g1.cell 2
  have c13 := g1.cell 3
  have c14 := g1.cell 4
  have c15 := g1.cell 5
  have c20 := g2.cell 0
  have c21 := g2.cell 1
  have f20 := g2.frozen 0
  have f21 := g2.frozen 1
  have c30 := g3.cell 0
  have c31 := g3.cell 1
  have f30 := g3.frozen 0
  have f31 := g3.frozen 1
  clear g1 g2 g3
  go_wp2_with fail
  refine bodyPost_ret (v := .agg #[.int .u64 0, .string ByteArray.empty]) (by simp [results, Tryd.results16, go_sem, c20, c21]; try rfl) rfl (fun r0 => ⟨?_, ?_⟩)
  · rw [hact.out]; rfl
  · rw [hact.out]
    refine rdo_end h.out.own hB1.out ht.out ?_
    repeat first | exact Chg.refl _ _ | refine Chg.drew ?_ | refine Chg.alloc ?_ _ | refine Chg.setCell ?_ (.inl ⟨by (first | omega | (simp; done) | (simp; omega)), by (first | omega | (simp; omega))⟩) _
set_option maxRecDepth 100000 in
set_option maxHeartbeats 1000000 in
theorem rdo_3 (b c o n : Int) (s : ByteArray) (hr : PAct.right ⟨3, b, c, o, n, s⟩ = true) (hsz : s.size ≤ 9223372036854775807) (hb0 : 0 ≤ b) (hn0 : 0 ≤ n ∧ n ≤ 18446744073709551615) (hf : S.faults ≤ 1000000000) (hla : S.last ≤ 1000000) :
    Calls Tryd.prog 16 #[.pointer (some ⟨hb, 0, none⟩), .agg #[.int .i64 3, .int .u64 b, .int .i64 c, .int .u64 o, .int .u64 n, .string s]] w (RDoPost F hb S ⟨3, b, c, o, n, s⟩ w) := by
  have hR := fun W => rright_any ⟨3, b, c, o, n, s⟩ W hsz
  rw [hr] at hR
  have hact : ∀ r, S.act ⟨3, b, c, o, n, s⟩ r = (⟨(S.swap b c o n).1, ByteArray.empty⟩, (S.swap b c o n).2) := by
    intro r
    unfold PHeap.act
    rw [if_neg (by rw [hr]; decide)]
    simp
  replace hR := Lib.hid hR
  clear hr
  replace hact : Hid _ := Lib.hid hact
  replace h := Lib.hid h
  have B1 := Blk.alloc (Blk.alloc (Blk.new w 34 #[.int .i64 3, .int .u64 b, .int .i64 c, .int .u64 o, .int .u64 n, .string s]) (.cells #[.int .u64 0, .string ⟨#[]⟩] 38)) (.cells #[.int .u64 0, .string ⟨#[]⟩] 38)
  have B2 := Blk.alloc (Blk.new (w.alloc (.cells #[.int .i64 3, .int .u64 b, .int .i64 c, .int .u64 o, .int .u64 n, .string s] 34)) 38 #[.int .u64 0, .string ⟨#[]⟩]) (.cells #[.int .u64 0, .string ⟨#[]⟩] 38)
  have B3 := Blk.new ((w.alloc (.cells #[.int .i64 3, .int .u64 b, .int .i64 c, .int .u64 o, .int .u64 n, .string s] 34)).alloc (.cells #[.int .u64 0, .string ⟨#[]⟩] 38)) 38 #[.int .u64 0, .string ⟨#[]⟩]
  have hW0 : Below w.heap.size w (((w.alloc (.cells #[.int .i64 3, .int .u64 b, .int .i64 c, .int .u64 o, .int .u64 n, .string s] 34)).alloc (.cells #[.int .u64 0, .string ⟨#[]⟩] 38)).alloc (.cells #[.int .u64 0, .string ⟨#[]⟩] 38)) := (((Below.refl _ _).alloc (Nat.le_refl _) _).alloc (by simp) _).alloc (by simp; omega) _
  simp only [World.size_alloc] at B2 B3
  replace B1 := Lib.hid B1
  replace B2 := Lib.hid B2
  replace B3 := Lib.hid B3
  replace hW0 := Lib.hid hW0
  go_enter Tryd.func16, Tryd.ntmps16
  go_wp2_with fail
  refine (hR.out _).mono ?_; rintro e w1 ⟨rfl, hb1⟩
  have hB1 := nx hW0.out (Nat.le_refl _) hb1
  have g1 := (B1.out.below hb1 (by simp; omega))
  have g2 := (B2.out.below hb1 (by simp))
  have g3 := (B3.out.below hb1 (by simp))
  have hs := hb1.size
  simp only [World.size_alloc] at hs
  clear hb1
  replace hB1 := Lib.hid hB1
  have c10 := g1.cell 0
  have c11 := g1.cell 1
  have c12 := g1.cell 2
  have c13 := g1.cell 3
  have c14 := g1.cell 4
  have c15 := g1.cell 5
  have c20 := g2.cell 0
  have c21 := g2.cell 1
  have f20 := g2.frozen 0
  have f21 := g2.frozen 1
  have c30 := g3.cell 0
  have c31 := g3.cell 1
  have f30 := g3.frozen 0
  have f31 := g3.frozen 1
  replace g1 := Lib.hid g1
  replace g2 := Lib.hid g2
  replace g3 := Lib.hid g3
  go_wp2_with fail
  refine (rswap_any (h.out.below hB1.out) b c o n hb0 hla hf).mono ?_; rintro e w2 ⟨rfl, ht⟩
  clear c10 c11 c12 c13 c14 c15 c20 c21 f20 f21 c30 c31 f30 f31
  have hF0 : ∀ j, w.heap.size ≤ j → ¬ F j := fun j hj hf => by have := h.out.own j hf; omega
  have g1 := g1.out.keep (ht.2.block _ (by omega) (hF0 _ (by omega)))
  have g2 := g2.out.keep (ht.2.block _ (by omega) (hF0 _ (by omega)))
  have g3 := g3.out.keep (ht.2.block _ (by omega) (hF0 _ (by omega)))
  have hs2 := ht.2.size
  replace ht := Lib.hid ht
  have c10 := g1.cell 0
  have c11 := g1.cell 1
  have c12 := g1.cell 2
  have c13 := g1.cell 3
  have c14 := g1.cell 4
  have c15 := g1.cell 5
  have c20 := g2.cell 0
  have c21 := g2.cell 1
  have f20 := g2.frozen 0
  have f21 := g2.frozen 1
  have c30 := g3.cell 0
  have c31 := g3.cell 1
  have f30 := g3.frozen 0
  have f31 := g3.frozen 1
  clear g1 g2 g3
  go_wp2_with fail
  refine bodyPost_ret (v := .agg #[.int .u64 (S.swap b c o n).1, .string ByteArray.empty]) (by simp [results, Tryd.results16, go_sem, c20, c21]; try rfl) rfl (fun r0 => ⟨?_, ?_⟩)
  · rw [hact.out]; rfl
  · rw [hact.out]
    refine rdo_end h.out.own hB1.out ht.out ?_
    repeat first | exact Chg.refl _ _ | refine Chg.drew ?_ | refine Chg.alloc ?_ _ | refine Chg.setCell ?_ (.inl ⟨by (first | omega | (simp; done) | (simp; omega)), by (first | omega | (simp; omega))⟩) _
set_option maxRecDepth 100000 in
set_option maxHeartbeats 1000000 in
theorem rdo_4 (b c o n : Int) (s : ByteArray) (hr : PAct.right ⟨4, b, c, o, n, s⟩ = true) (hsz : s.size ≤ 9223372036854775807) (hb0 : 0 ≤ b) (hn0 : 0 ≤ n ∧ n ≤ 18446744073709551615) (hf : S.faults ≤ 1000000000) (hla : S.last ≤ 1000000) :
    Calls Tryd.prog 16 #[.pointer (some ⟨hb, 0, none⟩), .agg #[.int .i64 4, .int .u64 b, .int .i64 c, .int .u64 o, .int .u64 n, .string s]] w (RDoPost F hb S ⟨4, b, c, o, n, s⟩ w) := by
  have hR := fun W => rright_any ⟨4, b, c, o, n, s⟩ W hsz
  rw [hr] at hR
  have hact : ∀ r, S.act ⟨4, b, c, o, n, s⟩ r = (⟨(S.bump b c n).1, ByteArray.empty⟩, (S.bump b c n).2) := by
    intro r
    unfold PHeap.act
    rw [if_neg (by rw [hr]; decide)]
    simp
  replace hR := Lib.hid hR
  clear hr
  replace hact : Hid _ := Lib.hid hact
  replace h := Lib.hid h
  have B1 := Blk.alloc (Blk.alloc (Blk.new w 34 #[.int .i64 4, .int .u64 b, .int .i64 c, .int .u64 o, .int .u64 n, .string s]) (.cells #[.int .u64 0, .string ⟨#[]⟩] 38)) (.cells #[.int .u64 0, .string ⟨#[]⟩] 38)
  have B2 := Blk.alloc (Blk.new (w.alloc (.cells #[.int .i64 4, .int .u64 b, .int .i64 c, .int .u64 o, .int .u64 n, .string s] 34)) 38 #[.int .u64 0, .string ⟨#[]⟩]) (.cells #[.int .u64 0, .string ⟨#[]⟩] 38)
  have B3 := Blk.new ((w.alloc (.cells #[.int .i64 4, .int .u64 b, .int .i64 c, .int .u64 o, .int .u64 n, .string s] 34)).alloc (.cells #[.int .u64 0, .string ⟨#[]⟩] 38)) 38 #[.int .u64 0, .string ⟨#[]⟩]
  have hW0 : Below w.heap.size w (((w.alloc (.cells #[.int .i64 4, .int .u64 b, .int .i64 c, .int .u64 o, .int .u64 n, .string s] 34)).alloc (.cells #[.int .u64 0, .string ⟨#[]⟩] 38)).alloc (.cells #[.int .u64 0, .string ⟨#[]⟩] 38)) := (((Below.refl _ _).alloc (Nat.le_refl _) _).alloc (by simp) _).alloc (by simp; omega) _
  simp only [World.size_alloc] at B2 B3
  replace B1 := Lib.hid B1
  replace B2 := Lib.hid B2
  replace B3 := Lib.hid B3
  replace hW0 := Lib.hid hW0
  go_enter Tryd.func16, Tryd.ntmps16
  go_wp2_with fail
  refine (hR.out _).mono ?_; rintro e w1 ⟨rfl, hb1⟩
  have hB1 := nx hW0.out (Nat.le_refl _) hb1
  have g1 := (B1.out.below hb1 (by simp; omega))
  have g2 := (B2.out.below hb1 (by simp))
  have g3 := (B3.out.below hb1 (by simp))
  have hs := hb1.size
  simp only [World.size_alloc] at hs
  clear hb1
  replace hB1 := Lib.hid hB1
  have c10 := g1.cell 0
  have c11 := g1.cell 1
  have c12 := g1.cell 2
  have c13 := g1.cell 3
  have c14 := g1.cell 4
  have c15 := g1.cell 5
  have c20 := g2.cell 0
  have c21 := g2.cell 1
  have f20 := g2.frozen 0
  have f21 := g2.frozen 1
  have c30 := g3.cell 0
  have c31 := g3.cell 1
  have f30 := g3.frozen 0
  have f31 := g3.frozen 1
  replace g1 := Lib.hid g1
  replace g2 := Lib.hid g2
  replace g3 := Lib.hid g3
  go_wp2_with fail
  refine (rbump_any (h.out.below hB1.out) b c n hb0 hla hf).mono ?_; rintro e w2 ⟨rfl, ht⟩
  clear c10 c11 c12 c13 c14 c15 c20 c21 f20 f21 c30 c31 f30 f31
  have hF0 : ∀ j, w.heap.size ≤ j → ¬ F j := fun j hj hf => by have := h.out.own j hf; omega
  have g1 := g1.out.keep (ht.2.block _ (by omega) (hF0 _ (by omega)))
  have g2 := g2.out.keep (ht.2.block _ (by omega) (hF0 _ (by omega)))
  have g3 := g3.out.keep (ht.2.block _ (by omega) (hF0 _ (by omega)))
  have hs2 := ht.2.size
  replace ht := Lib.hid ht
  have c10 := g1.cell 0
  have c11 := g1.cell 1
  have c12 := g1.cell 2
  have c13 := g1.cell 3
  have c14 := g1.cell 4
  have c15 := g1.cell 5
  have c20 := g2.cell 0
  have c21 := g2.cell 1
  have f20 := g2.frozen 0
  have f21 := g2.frozen 1
  have c30 := g3.cell 0
  have c31 := g3.cell 1
  have f30 := g3.frozen 0
  have f31 := g3.frozen 1
  clear g1 g2 g3
  go_wp2_with fail
  refine bodyPost_ret (v := .agg #[.int .u64 (S.bump b c n).1, .string ByteArray.empty]) (by simp [results, Tryd.results16, go_sem, c20, c21]; try rfl) rfl (fun r0 => ⟨?_, ?_⟩)
  · rw [hact.out]; rfl
  · rw [hact.out]
    refine rdo_end h.out.own hB1.out ht.out ?_
    repeat first | exact Chg.refl _ _ | refine Chg.drew ?_ | refine Chg.alloc ?_ _ | refine Chg.setCell ?_ (.inl ⟨by (first | omega | (simp; done) | (simp; omega)), by (first | omega | (simp; omega))⟩) _
set_option maxRecDepth 100000 in
set_option maxHeartbeats 1000000 in
theorem rdo_5 (b c o n : Int) (s : ByteArray) (hr : PAct.right ⟨5, b, c, o, n, s⟩ = true) (hsz : s.size ≤ 9223372036854775807) (hb0 : 0 ≤ b) (hn0 : 0 ≤ n ∧ n ≤ 18446744073709551615) (hf : S.faults ≤ 1000000000) (hla : S.last ≤ 1000000) :
    Calls Tryd.prog 16 #[.pointer (some ⟨hb, 0, none⟩), .agg #[.int .i64 5, .int .u64 b, .int .i64 c, .int .u64 o, .int .u64 n, .string s]] w (RDoPost F hb S ⟨5, b, c, o, n, s⟩ w) := by
  have hR := fun W => rright_any ⟨5, b, c, o, n, s⟩ W hsz
  rw [hr] at hR
  have hact : ∀ r, S.act ⟨5, b, c, o, n, s⟩ r = (⟨(S.make c s r).1, ByteArray.empty⟩, (S.make c s r).2) := by
    intro r
    unfold PHeap.act
    rw [if_neg (by rw [hr]; decide)]
    simp
  replace hR := Lib.hid hR
  clear hr
  replace hact : Hid _ := Lib.hid hact
  replace h := Lib.hid h
  have B1 := Blk.alloc (Blk.alloc (Blk.new w 34 #[.int .i64 5, .int .u64 b, .int .i64 c, .int .u64 o, .int .u64 n, .string s]) (.cells #[.int .u64 0, .string ⟨#[]⟩] 38)) (.cells #[.int .u64 0, .string ⟨#[]⟩] 38)
  have B2 := Blk.alloc (Blk.new (w.alloc (.cells #[.int .i64 5, .int .u64 b, .int .i64 c, .int .u64 o, .int .u64 n, .string s] 34)) 38 #[.int .u64 0, .string ⟨#[]⟩]) (.cells #[.int .u64 0, .string ⟨#[]⟩] 38)
  have B3 := Blk.new ((w.alloc (.cells #[.int .i64 5, .int .u64 b, .int .i64 c, .int .u64 o, .int .u64 n, .string s] 34)).alloc (.cells #[.int .u64 0, .string ⟨#[]⟩] 38)) 38 #[.int .u64 0, .string ⟨#[]⟩]
  have hW0 : Below w.heap.size w (((w.alloc (.cells #[.int .i64 5, .int .u64 b, .int .i64 c, .int .u64 o, .int .u64 n, .string s] 34)).alloc (.cells #[.int .u64 0, .string ⟨#[]⟩] 38)).alloc (.cells #[.int .u64 0, .string ⟨#[]⟩] 38)) := (((Below.refl _ _).alloc (Nat.le_refl _) _).alloc (by simp) _).alloc (by simp; omega) _
  simp only [World.size_alloc] at B2 B3
  replace B1 := Lib.hid B1
  replace B2 := Lib.hid B2
  replace B3 := Lib.hid B3
  replace hW0 := Lib.hid hW0
  go_enter Tryd.func16, Tryd.ntmps16
  go_wp2_with fail
  refine (hR.out _).mono ?_; rintro e w1 ⟨rfl, hb1⟩
  have hB1 := nx hW0.out (Nat.le_refl _) hb1
  have g1 := (B1.out.below hb1 (by simp; omega))
  have g2 := (B2.out.below hb1 (by simp))
  have g3 := (B3.out.below hb1 (by simp))
  have hs := hb1.size
  simp only [World.size_alloc] at hs
  clear hb1
  replace hB1 := Lib.hid hB1
  have c10 := g1.cell 0
  have c11 := g1.cell 1
  have c12 := g1.cell 2
  have c13 := g1.cell 3
  have c14 := g1.cell 4
  have c15 := g1.cell 5
  have c20 := g2.cell 0
  have c21 := g2.cell 1
  have f20 := g2.frozen 0
  have f21 := g2.frozen 1
  have c30 := g3.cell 0
  have c31 := g3.cell 1
  have f30 := g3.frozen 0
  have f31 := g3.frozen 1
  replace g1 := Lib.hid g1
  replace g2 := Lib.hid g2
  replace g3 := Lib.hid g3
  go_wp2_with fail
  refine (rmake_any (h.out.below hB1.out) c s hla).mono ?_; rintro e w2 hmk; obtain rfl := (hmk 0).1; have ht := (hmk 0).2; replace hmk := Lib.hid hmk
  clear c10 c11 c12 c13 c14 c15 c20 c21 f20 f21 c30 c31 f30 f31
  have hF0 : ∀ j, w.heap.size ≤ j → ¬ F j := fun j hj hf => by have := h.out.own j hf; omega
  have g1 := g1.out.keep (ht.2.block _ (by omega) (hF0 _ (by omega)))
  have g2 := g2.out.keep (ht.2.block _ (by omega) (hF0 _ (by omega)))
  have g3 := g3.out.keep (ht.2.block _ (by omega) (hF0 _ (by omega)))
  have hs2 := ht.2.size
  replace ht := Lib.hid ht
  have c10 := g1.cell 0
  have c11 := g1.cell 1
  have c12 := g1.cell 2
  have c13 := g1.cell 3
  have c14 := g1.cell 4
  have c15 := g1.cell 5
  have c20 := g2.cell 0
  have c21 := g2.cell 1
  have f20 := g2.frozen 0
  have f21 := g2.frozen 1
  have c30 := g3.cell 0
  have c31 := g3.cell 1
  have f30 := g3.frozen 0
  have f31 := g3.frozen 1
  clear g1 g2 g3
  go_wp2_with fail
  refine bodyPost_ret (v := .agg #[.int .u64 (S.make c s 0).1, .string ByteArray.empty]) (by simp [results, Tryd.results16, go_sem, c20, c21]; try rfl) rfl (fun r0 => ⟨?_, ?_⟩)
  · rw [hact.out, make_fst S c s r0]; rfl
  · rw [hact.out]
    refine rdo_end h.out.own hB1.out (hmk.out r0).2 ?_
    repeat first | exact Chg.refl _ _ | refine Chg.drew ?_ | refine Chg.alloc ?_ _ | refine Chg.setCell ?_ (.inl ⟨by (first | omega | (simp; done) | (simp; omega)), by (first | omega | (simp; omega))⟩) _
set_option maxRecDepth 100000 in
set_option maxHeartbeats 1000000 in
theorem rdo_6 (b c o n : Int) (s : ByteArray) (hr : PAct.right ⟨6, b, c, o, n, s⟩ = true) (hsz : s.size ≤ 9223372036854775807) (hb0 : 0 ≤ b) (hn0 : 0 ≤ n ∧ n ≤ 18446744073709551615) (hf : S.faults ≤ 1000000000) (hla : S.last ≤ 1000000) :
    Calls Tryd.prog 16 #[.pointer (some ⟨hb, 0, none⟩), .agg #[.int .i64 6, .int .u64 b, .int .i64 c, .int .u64 o, .int .u64 n, .string s]] w (RDoPost F hb S ⟨6, b, c, o, n, s⟩ w) := by
  have hR := fun W => rright_any ⟨6, b, c, o, n, s⟩ W hsz
  rw [hr] at hR
  have hact : ∀ r, S.act ⟨6, b, c, o, n, s⟩ r = (⟨0, (S.words b).1⟩, (S.words b).2) := by
    intro r
    unfold PHeap.act
    rw [if_neg (by rw [hr]; decide)]
    simp
  replace hR := Lib.hid hR
  clear hr
  replace hact : Hid _ := Lib.hid hact
  replace h := Lib.hid h
  have B1 := Blk.alloc (Blk.alloc (Blk.new w 34 #[.int .i64 6, .int .u64 b, .int .i64 c, .int .u64 o, .int .u64 n, .string s]) (.cells #[.int .u64 0, .string ⟨#[]⟩] 38)) (.cells #[.int .u64 0, .string ⟨#[]⟩] 38)
  have B2 := Blk.alloc (Blk.new (w.alloc (.cells #[.int .i64 6, .int .u64 b, .int .i64 c, .int .u64 o, .int .u64 n, .string s] 34)) 38 #[.int .u64 0, .string ⟨#[]⟩]) (.cells #[.int .u64 0, .string ⟨#[]⟩] 38)
  have B3 := Blk.new ((w.alloc (.cells #[.int .i64 6, .int .u64 b, .int .i64 c, .int .u64 o, .int .u64 n, .string s] 34)).alloc (.cells #[.int .u64 0, .string ⟨#[]⟩] 38)) 38 #[.int .u64 0, .string ⟨#[]⟩]
  have hW0 : Below w.heap.size w (((w.alloc (.cells #[.int .i64 6, .int .u64 b, .int .i64 c, .int .u64 o, .int .u64 n, .string s] 34)).alloc (.cells #[.int .u64 0, .string ⟨#[]⟩] 38)).alloc (.cells #[.int .u64 0, .string ⟨#[]⟩] 38)) := (((Below.refl _ _).alloc (Nat.le_refl _) _).alloc (by simp) _).alloc (by simp; omega) _
  simp only [World.size_alloc] at B2 B3
  replace B1 := Lib.hid B1
  replace B2 := Lib.hid B2
  replace B3 := Lib.hid B3
  replace hW0 := Lib.hid hW0
  go_enter Tryd.func16, Tryd.ntmps16
  go_wp2_with fail
  refine (hR.out _).mono ?_; rintro e w1 ⟨rfl, hb1⟩
  have hB1 := nx hW0.out (Nat.le_refl _) hb1
  have g1 := (B1.out.below hb1 (by simp; omega))
  have g2 := (B2.out.below hb1 (by simp))
  have g3 := (B3.out.below hb1 (by simp))
  have hs := hb1.size
  simp only [World.size_alloc] at hs
  clear hb1
  replace hB1 := Lib.hid hB1
  have c10 := g1.cell 0
  have c11 := g1.cell 1
  have c12 := g1.cell 2
  have c13 := g1.cell 3
  have c14 := g1.cell 4
  have c15 := g1.cell 5
  have c20 := g2.cell 0
  have c21 := g2.cell 1
  have f20 := g2.frozen 0
  have f21 := g2.frozen 1
  have c30 := g3.cell 0
  have c31 := g3.cell 1
  have f30 := g3.frozen 0
  have f31 := g3.frozen 1
  replace g1 := Lib.hid g1
  replace g2 := Lib.hid g2
  replace g3 := Lib.hid g3
  go_wp2_with fail
  refine (rwordsEx_all (h.out.below hB1.out) b hb0 hla hf).mono ?_; rintro e w2 ⟨cd, rfl, ht⟩
  clear c10 c11 c12 c13 c14 c15 c20 c21 f20 f21 c30 c31 f30 f31
  have hF0 : ∀ j, w.heap.size ≤ j → ¬ F j := fun j hj hf => by have := h.out.own j hf; omega
  have g1 := g1.out.keep (ht.2.block _ (by omega) (hF0 _ (by omega)))
  have g2 := g2.out.keep (ht.2.block _ (by omega) (hF0 _ (by omega)))
  have g3 := g3.out.keep (ht.2.block _ (by omega) (hF0 _ (by omega)))
  have hs2 := ht.2.size
  replace ht := Lib.hid ht
  have c10 := g1.cell 0
  have c11 := g1.cell 1
  have c12 := g1.cell 2
  have c13 := g1.cell 3
  have c14 := g1.cell 4
  have c15 := g1.cell 5
  have c20 := g2.cell 0
  have c21 := g2.cell 1
  have f20 := g2.frozen 0
  have f21 := g2.frozen 1
  have c30 := g3.cell 0
  have c31 := g3.cell 1
  have f30 := g3.frozen 0
  have f31 := g3.frozen 1
  clear g1 g2 g3
  go_wp2_with fail
  refine bodyPost_ret (v := .agg #[.int .u64 0, .string (S.words b).1]) (by simp [results, Tryd.results16, go_sem, c20, c21]; try rfl) rfl (fun r0 => ⟨?_, ?_⟩)
  · rw [hact.out]; rfl
  · rw [hact.out]
    refine rdo_end h.out.own hB1.out ht.out ?_
    repeat first | exact Chg.refl _ _ | refine Chg.drew ?_ | refine Chg.alloc ?_ _ | refine Chg.setCell ?_ (.inl ⟨by (first | omega | (simp; done) | (simp; omega)), by (first | omega | (simp; omega))⟩) _
set_option maxRecDepth 100000 in
set_option maxHeartbeats 1000000 in
theorem rdo_7 (b c o n : Int) (s : ByteArray) (hr : PAct.right ⟨7, b, c, o, n, s⟩ = true) (hsz : s.size ≤ 9223372036854775807) (hb0 : 0 ≤ b) (hn0 : 0 ≤ n ∧ n ≤ 18446744073709551615) (hf : S.faults ≤ 1000000000) (hla : S.last ≤ 1000000) :
    Calls Tryd.prog 16 #[.pointer (some ⟨hb, 0, none⟩), .agg #[.int .i64 7, .int .u64 b, .int .i64 c, .int .u64 o, .int .u64 n, .string s]] w (RDoPost F hb S ⟨7, b, c, o, n, s⟩ w) := by
  have hR := fun W => rright_any ⟨7, b, c, o, n, s⟩ W hsz
  rw [hr] at hR
  have hact : ∀ r, S.act ⟨7, b, c, o, n, s⟩ r = (⟨0, ByteArray.empty⟩, S.drop b) := by
    intro r
    unfold PHeap.act
    rw [if_neg (by rw [hr]; decide)]
    simp
  replace hR := Lib.hid hR
  clear hr
  replace hact : Hid _ := Lib.hid hact
  replace h := Lib.hid h
  have B1 := Blk.alloc (Blk.alloc (Blk.new w 34 #[.int .i64 7, .int .u64 b, .int .i64 c, .int .u64 o, .int .u64 n, .string s]) (.cells #[.int .u64 0, .string ⟨#[]⟩] 38)) (.cells #[.int .u64 0, .string ⟨#[]⟩] 38)
  have B2 := Blk.alloc (Blk.new (w.alloc (.cells #[.int .i64 7, .int .u64 b, .int .i64 c, .int .u64 o, .int .u64 n, .string s] 34)) 38 #[.int .u64 0, .string ⟨#[]⟩]) (.cells #[.int .u64 0, .string ⟨#[]⟩] 38)
  have B3 := Blk.new ((w.alloc (.cells #[.int .i64 7, .int .u64 b, .int .i64 c, .int .u64 o, .int .u64 n, .string s] 34)).alloc (.cells #[.int .u64 0, .string ⟨#[]⟩] 38)) 38 #[.int .u64 0, .string ⟨#[]⟩]
  have hW0 : Below w.heap.size w (((w.alloc (.cells #[.int .i64 7, .int .u64 b, .int .i64 c, .int .u64 o, .int .u64 n, .string s] 34)).alloc (.cells #[.int .u64 0, .string ⟨#[]⟩] 38)).alloc (.cells #[.int .u64 0, .string ⟨#[]⟩] 38)) := (((Below.refl _ _).alloc (Nat.le_refl _) _).alloc (by simp) _).alloc (by simp; omega) _
  simp only [World.size_alloc] at B2 B3
  replace B1 := Lib.hid B1
  replace B2 := Lib.hid B2
  replace B3 := Lib.hid B3
  replace hW0 := Lib.hid hW0
  go_enter Tryd.func16, Tryd.ntmps16
  go_wp2_with fail
  refine (hR.out _).mono ?_; rintro e w1 ⟨rfl, hb1⟩
  have hB1 := nx hW0.out (Nat.le_refl _) hb1
  have g1 := (B1.out.below hb1 (by simp; omega))
  have g2 := (B2.out.below hb1 (by simp))
  have g3 := (B3.out.below hb1 (by simp))
  have hs := hb1.size
  simp only [World.size_alloc] at hs
  clear hb1
  replace hB1 := Lib.hid hB1
  have c10 := g1.cell 0
  have c11 := g1.cell 1
  have c12 := g1.cell 2
  have c13 := g1.cell 3
  have c14 := g1.cell 4
  have c15 := g1.cell 5
  have c20 := g2.cell 0
  have c21 := g2.cell 1
  have f20 := g2.frozen 0
  have f21 := g2.frozen 1
  have c30 := g3.cell 0
  have c31 := g3.cell 1
  have f30 := g3.frozen 0
  have f31 := g3.frozen 1
  replace g1 := Lib.hid g1
  replace g2 := Lib.hid g2
  replace g3 := Lib.hid g3
  go_wp2_with fail
  refine (rdropEx_all (h.out.below hB1.out) b hb0 hla hf).mono ?_; rintro e w2 ⟨cd, rfl, ht⟩
  clear c10 c11 c12 c13 c14 c15 c20 c21 f20 f21 c30 c31 f30 f31
  have hF0 : ∀ j, w.heap.size ≤ j → ¬ F j := fun j hj hf => by have := h.out.own j hf; omega
  have g1 := g1.out.keep (ht.2.block _ (by omega) (hF0 _ (by omega)))
  have g2 := g2.out.keep (ht.2.block _ (by omega) (hF0 _ (by omega)))
  have g3 := g3.out.keep (ht.2.block _ (by omega) (hF0 _ (by omega)))
  have hs2 := ht.2.size
  replace ht := Lib.hid ht
  have c10 := g1.cell 0
  have c11 := g1.cell 1
  have c12 := g1.cell 2
  have c13 := g1.cell 3
  have c14 := g1.cell 4
  have c15 := g1.cell 5
  have c20 := g2.cell 0
  have c21 := g2.cell 1
  have f20 := g2.frozen 0
  have f21 := g2.frozen 1
  have c30 := g3.cell 0
  have c31 := g3.cell 1
  have f30 := g3.frozen 0
  have f31 := g3.frozen 1
  clear g1 g2 g3
  go_wp2_with fail
  refine bodyPost_ret (v := .agg #[.int .u64 0, .string ByteArray.empty]) (by simp [results, Tryd.results16, go_sem, c20, c21]; try rfl) rfl (fun r0 => ⟨?_, ?_⟩)
  · rw [hact.out]; rfl
  · rw [hact.out]
    refine rdo_end h.out.own hB1.out ht.out ?_
    repeat first | exact Chg.refl _ _ | refine Chg.drew ?_ | refine Chg.alloc ?_ _ | refine Chg.setCell ?_ (.inl ⟨by (first | omega | (simp; done) | (simp; omega)), by (first | omega | (simp; omega))⟩) _
set_option maxRecDepth 100000 in
set_option maxHeartbeats 1000000 in
theorem rdo_8a (b c o n : Int) (s : ByteArray) (hr : PAct.right ⟨8, b, c, o, n, s⟩ = true) (hsz : s.size ≤ 9223372036854775807) (hb0 : 0 ≤ b) (hn0 : 0 ≤ n ∧ n ≤ 18446744073709551615) (hf : S.faults ≤ 1000000000) (hla : S.last ≤ 1000000) (hl : S.locked = true) :
    Calls Tryd.prog 16 #[.pointer (some ⟨hb, 0, none⟩), .agg #[.int .i64 8, .int .u64 b, .int .i64 c, .int .u64 o, .int .u64 n, .string s]] w (RDoPost F hb S ⟨8, b, c, o, n, s⟩ w) := by
  have hR := fun W => rright_any ⟨8, b, c, o, n, s⟩ W hsz
  rw [hr] at hR
  have hact : ∀ r, S.act ⟨8, b, c, o, n, s⟩ r = (⟨0, ByteArray.empty⟩, S.lock) := by
    intro r
    unfold PHeap.act
    rw [if_neg (by rw [hr]; decide)]
    simp [hl]
  replace hR := Lib.hid hR
  clear hr
  replace hact : Hid _ := Lib.hid hact
  replace h := Lib.hid h
  replace hl := Lib.hid hl
  have B1 := Blk.alloc (Blk.alloc (Blk.new w 34 #[.int .i64 8, .int .u64 b, .int .i64 c, .int .u64 o, .int .u64 n, .string s]) (.cells #[.int .u64 0, .string ⟨#[]⟩] 38)) (.cells #[.int .u64 0, .string ⟨#[]⟩] 38)
  have B2 := Blk.alloc (Blk.new (w.alloc (.cells #[.int .i64 8, .int .u64 b, .int .i64 c, .int .u64 o, .int .u64 n, .string s] 34)) 38 #[.int .u64 0, .string ⟨#[]⟩]) (.cells #[.int .u64 0, .string ⟨#[]⟩] 38)
  have B3 := Blk.new ((w.alloc (.cells #[.int .i64 8, .int .u64 b, .int .i64 c, .int .u64 o, .int .u64 n, .string s] 34)).alloc (.cells #[.int .u64 0, .string ⟨#[]⟩] 38)) 38 #[.int .u64 0, .string ⟨#[]⟩]
  have hW0 : Below w.heap.size w (((w.alloc (.cells #[.int .i64 8, .int .u64 b, .int .i64 c, .int .u64 o, .int .u64 n, .string s] 34)).alloc (.cells #[.int .u64 0, .string ⟨#[]⟩] 38)).alloc (.cells #[.int .u64 0, .string ⟨#[]⟩] 38)) := (((Below.refl _ _).alloc (Nat.le_refl _) _).alloc (by simp) _).alloc (by simp; omega) _
  simp only [World.size_alloc] at B2 B3
  replace B1 := Lib.hid B1
  replace B2 := Lib.hid B2
  replace B3 := Lib.hid B3
  replace hW0 := Lib.hid hW0
  go_enter Tryd.func16, Tryd.ntmps16
  go_wp2_with fail
  refine (hR.out _).mono ?_; rintro e w1 ⟨rfl, hb1⟩
  have hB1 := nx hW0.out (Nat.le_refl _) hb1
  have g1 := (B1.out.below hb1 (by simp; omega))
  have g2 := (B2.out.below hb1 (by simp))
  have g3 := (B3.out.below hb1 (by simp))
  have hs := hb1.size
  simp only [World.size_alloc] at hs
  clear hb1
  replace hB1 := Lib.hid hB1
  have c10 := g1.cell 0
  have c11 := g1.cell 1
  have c12 := g1.cell 2
  have c13 := g1.cell 3
  have c14 := g1.cell 4
  have c15 := g1.cell 5
  have c20 := g2.cell 0
  have c21 := g2.cell 1
  have f20 := g2.frozen 0
  have f21 := g2.frozen 1
  have c30 := g3.cell 0
  have c31 := g3.cell 1
  have f30 := g3.frozen 0
  have f31 := g3.frozen 1
  replace g1 := Lib.hid g1
  replace g2 := Lib.hid g2
  replace g3 := Lib.hid g3
  go_wp2_with fail
  refine (rlockAs_all (h.out.below hB1.out) true hl.out).mono ?_; rintro e w2 ⟨rfl, ht⟩
  clear c10 c11 c12 c13 c14 c15 c20 c21 f20 f21 c30 c31 f30 f31
  have hF0 : ∀ j, w.heap.size ≤ j → ¬ F j := fun j hj hf => by have := h.out.own j hf; omega
  have g1 := g1.out.keep (ht.2.block _ (by omega) (hF0 _ (by omega)))
  have g2 := g2.out.keep (ht.2.block _ (by omega) (hF0 _ (by omega)))
  have g3 := g3.out.keep (ht.2.block _ (by omega) (hF0 _ (by omega)))
  have hs2 := ht.2.size
  replace ht := Lib.hid ht
  have c10 := g1.cell 0
  have c11 := g1.cell 1
  have c12 := g1.cell 2
  have c13 := g1.cell 3
  have c14 := g1.cell 4
  have c15 := g1.cell 5
  have c20 := g2.cell 0
  have c21 := g2.cell 1
  have f20 := g2.frozen 0
  have f21 := g2.frozen 1
  have c30 := g3.cell 0
  have c31 := g3.cell 1
  have f30 := g3.frozen 0
  have f31 := g3.frozen 1
  clear g1 g2 g3
  go_wp2_with fail
  refine bodyPost_ret (v := .agg #[.int .u64 0, .string ByteArray.empty]) (by simp [results, Tryd.results16, go_sem, c20, c21]; try rfl) rfl (fun r0 => ⟨?_, ?_⟩)
  · rw [hact.out]; rfl
  · rw [hact.out]
    refine rdo_end h.out.own hB1.out ht.out ?_
    repeat first | exact Chg.refl _ _ | refine Chg.drew ?_ | refine Chg.alloc ?_ _ | refine Chg.setCell ?_ (.inl ⟨by (first | omega | (simp; done) | (simp; omega)), by (first | omega | (simp; omega))⟩) _
set_option maxRecDepth 100000 in
set_option maxHeartbeats 1000000 in
theorem rdo_8b (b c o n : Int) (s : ByteArray) (hr : PAct.right ⟨8, b, c, o, n, s⟩ = true) (hsz : s.size ≤ 9223372036854775807) (hb0 : 0 ≤ b) (hn0 : 0 ≤ n ∧ n ≤ 18446744073709551615) (hf : S.faults ≤ 1000000000) (hla : S.last ≤ 1000000) (hl : S.locked = false) :
    Calls Tryd.prog 16 #[.pointer (some ⟨hb, 0, none⟩), .agg #[.int .i64 8, .int .u64 b, .int .i64 c, .int .u64 o, .int .u64 n, .string s]] w (RDoPost F hb S ⟨8, b, c, o, n, s⟩ w) := by
  have hR := fun W => rright_any ⟨8, b, c, o, n, s⟩ W hsz
  rw [hr] at hR
  have hact : ∀ r, S.act ⟨8, b, c, o, n, s⟩ r = (⟨1, ByteArray.empty⟩, S.lock) := by
    intro r
    unfold PHeap.act
    rw [if_neg (by rw [hr]; decide)]
    simp [hl]
  replace hR := Lib.hid hR
  clear hr
  replace hact : Hid _ := Lib.hid hact
  replace h := Lib.hid h
  replace hl := Lib.hid hl
  have B1 := Blk.alloc (Blk.alloc (Blk.new w 34 #[.int .i64 8, .int .u64 b, .int .i64 c, .int .u64 o, .int .u64 n, .string s]) (.cells #[.int .u64 0, .string ⟨#[]⟩] 38)) (.cells #[.int .u64 0, .string ⟨#[]⟩] 38)
  have B2 := Blk.alloc (Blk.new (w.alloc (.cells #[.int .i64 8, .int .u64 b, .int .i64 c, .int .u64 o, .int .u64 n, .string s] 34)) 38 #[.int .u64 0, .string ⟨#[]⟩]) (.cells #[.int .u64 0, .string ⟨#[]⟩] 38)
  have B3 := Blk.new ((w.alloc (.cells #[.int .i64 8, .int .u64 b, .int .i64 c, .int .u64 o, .int .u64 n, .string s] 34)).alloc (.cells #[.int .u64 0, .string ⟨#[]⟩] 38)) 38 #[.int .u64 0, .string ⟨#[]⟩]
  have hW0 : Below w.heap.size w (((w.alloc (.cells #[.int .i64 8, .int .u64 b, .int .i64 c, .int .u64 o, .int .u64 n, .string s] 34)).alloc (.cells #[.int .u64 0, .string ⟨#[]⟩] 38)).alloc (.cells #[.int .u64 0, .string ⟨#[]⟩] 38)) := (((Below.refl _ _).alloc (Nat.le_refl _) _).alloc (by simp) _).alloc (by simp; omega) _
  simp only [World.size_alloc] at B2 B3
  replace B1 := Lib.hid B1
  replace B2 := Lib.hid B2
  replace B3 := Lib.hid B3
  replace hW0 := Lib.hid hW0
  go_enter Tryd.func16, Tryd.ntmps16
  go_wp2_with fail
  refine (hR.out _).mono ?_; rintro e w1 ⟨rfl, hb1⟩
  have hB1 := nx hW0.out (Nat.le_refl _) hb1
  have g1 := (B1.out.below hb1 (by simp; omega))
  have g2 := (B2.out.below hb1 (by simp))
  have g3 := (B3.out.below hb1 (by simp))
  have hs := hb1.size
  simp only [World.size_alloc] at hs
  clear hb1
  replace hB1 := Lib.hid hB1
  have c10 := g1.cell 0
  have c11 := g1.cell 1
  have c12 := g1.cell 2
  have c13 := g1.cell 3
  have c14 := g1.cell 4
  have c15 := g1.cell 5
  have c20 := g2.cell 0
  have c21 := g2.cell 1
  have f20 := g2.frozen 0
  have f21 := g2.frozen 1
  have c30 := g3.cell 0
  have c31 := g3.cell 1
  have f30 := g3.frozen 0
  have f31 := g3.frozen 1
  replace g1 := Lib.hid g1
  replace g2 := Lib.hid g2
  replace g3 := Lib.hid g3
  go_wp2_with fail
  refine (rlockAs_all (h.out.below hB1.out) false hl.out).mono ?_; rintro e w2 ⟨rfl, ht⟩
  clear c10 c11 c12 c13 c14 c15 c20 c21 f20 f21 c30 c31 f30 f31
  have hF0 : ∀ j, w.heap.size ≤ j → ¬ F j := fun j hj hf => by have := h.out.own j hf; omega
  have g1 := g1.out.keep (ht.2.block _ (by omega) (hF0 _ (by omega)))
  have g2 := g2.out.keep (ht.2.block _ (by omega) (hF0 _ (by omega)))
  have g3 := g3.out.keep (ht.2.block _ (by omega) (hF0 _ (by omega)))
  have hs2 := ht.2.size
  replace ht := Lib.hid ht
  have c10 := g1.cell 0
  have c11 := g1.cell 1
  have c12 := g1.cell 2
  have c13 := g1.cell 3
  have c14 := g1.cell 4
  have c15 := g1.cell 5
  have c20 := g2.cell 0
  have c21 := g2.cell 1
  have f20 := g2.frozen 0
  have f21 := g2.frozen 1
  have c30 := g3.cell 0
  have c31 := g3.cell 1
  have f30 := g3.frozen 0
  have f31 := g3.frozen 1
  clear g1 g2 g3
  go_wp2_with fail
  refine bodyPost_ret (v := .agg #[.int .u64 1, .string ByteArray.empty]) (by simp [results, Tryd.results16, go_sem, c20, c21]; try rfl) rfl (fun r0 => ⟨?_, ?_⟩)
  · rw [hact.out]; rfl
  · rw [hact.out]
    refine rdo_end h.out.own hB1.out ht.out ?_
    repeat first | exact Chg.refl _ _ | refine Chg.drew ?_ | refine Chg.alloc ?_ _ | refine Chg.setCell ?_ (.inl ⟨by (first | omega | (simp; done) | (simp; omega)), by (first | omega | (simp; omega))⟩) _
set_option maxRecDepth 100000 in
set_option maxHeartbeats 1000000 in
theorem rdo_9 (b c o n : Int) (s : ByteArray) (hr : PAct.right ⟨9, b, c, o, n, s⟩ = true) (hsz : s.size ≤ 9223372036854775807) (hb0 : 0 ≤ b) (hn0 : 0 ≤ n ∧ n ≤ 18446744073709551615) (hf : S.faults ≤ 1000000000) (hla : S.last ≤ 1000000) :
    Calls Tryd.prog 16 #[.pointer (some ⟨hb, 0, none⟩), .agg #[.int .i64 9, .int .u64 b, .int .i64 c, .int .u64 o, .int .u64 n, .string s]] w (RDoPost F hb S ⟨9, b, c, o, n, s⟩ w) := by
  have hR := fun W => rright_any ⟨9, b, c, o, n, s⟩ W hsz
  rw [hr] at hR
  have hact : ∀ r, S.act ⟨9, b, c, o, n, s⟩ r = (⟨0, ByteArray.empty⟩, S.unlock) := by
    intro r
    unfold PHeap.act
    rw [if_neg (by rw [hr]; decide)]
    simp
  replace hR := Lib.hid hR
  clear hr
  replace hact : Hid _ := Lib.hid hact
  replace h := Lib.hid h
  have B1 := Blk.alloc (Blk.alloc (Blk.new w 34 #[.int .i64 9, .int .u64 b, .int .i64 c, .int .u64 o, .int .u64 n, .string s]) (.cells #[.int .u64 0, .string ⟨#[]⟩] 38)) (.cells #[.int .u64 0, .string ⟨#[]⟩] 38)
  have B2 := Blk.alloc (Blk.new (w.alloc (.cells #[.int .i64 9, .int .u64 b, .int .i64 c, .int .u64 o, .int .u64 n, .string s] 34)) 38 #[.int .u64 0, .string ⟨#[]⟩]) (.cells #[.int .u64 0, .string ⟨#[]⟩] 38)
  have B3 := Blk.new ((w.alloc (.cells #[.int .i64 9, .int .u64 b, .int .i64 c, .int .u64 o, .int .u64 n, .string s] 34)).alloc (.cells #[.int .u64 0, .string ⟨#[]⟩] 38)) 38 #[.int .u64 0, .string ⟨#[]⟩]
  have hW0 : Below w.heap.size w (((w.alloc (.cells #[.int .i64 9, .int .u64 b, .int .i64 c, .int .u64 o, .int .u64 n, .string s] 34)).alloc (.cells #[.int .u64 0, .string ⟨#[]⟩] 38)).alloc (.cells #[.int .u64 0, .string ⟨#[]⟩] 38)) := (((Below.refl _ _).alloc (Nat.le_refl _) _).alloc (by simp) _).alloc (by simp; omega) _
  simp only [World.size_alloc] at B2 B3
  replace B1 := Lib.hid B1
  replace B2 := Lib.hid B2
  replace B3 := Lib.hid B3
  replace hW0 := Lib.hid hW0
  go_enter Tryd.func16, Tryd.ntmps16
  go_wp2_with fail
  refine (hR.out _).mono ?_; rintro e w1 ⟨rfl, hb1⟩
  have hB1 := nx hW0.out (Nat.le_refl _) hb1
  have g1 := (B1.out.below hb1 (by simp; omega))
  have g2 := (B2.out.below hb1 (by simp))
  have g3 := (B3.out.below hb1 (by simp))
  have hs := hb1.size
  simp only [World.size_alloc] at hs
  clear hb1
  replace hB1 := Lib.hid hB1
  have c10 := g1.cell 0
  have c11 := g1.cell 1
  have c12 := g1.cell 2
  have c13 := g1.cell 3
  have c14 := g1.cell 4
  have c15 := g1.cell 5
  have c20 := g2.cell 0
  have c21 := g2.cell 1
  have f20 := g2.frozen 0
  have f21 := g2.frozen 1
  have c30 := g3.cell 0
  have c31 := g3.cell 1
  have f30 := g3.frozen 0
  have f31 := g3.frozen 1
  replace g1 := Lib.hid g1
  replace g2 := Lib.hid g2
  replace g3 := Lib.hid g3
  go_wp2_with fail
  refine (runlock_any (h.out.below hB1.out) hf).mono ?_; rintro e w2 ⟨rfl, ht⟩
  clear c10 c11 c12 c13 c14 c15 c20 c21 f20 f21 c30 c31 f30 f31
  have hF0 : ∀ j, w.heap.size ≤ j → ¬ F j := fun j hj hf => by have := h.out.own j hf; omega
  have g1 := g1.out.keep (ht.2.block _ (by omega) (hF0 _ (by omega)))
  have g2 := g2.out.keep (ht.2.block _ (by omega) (hF0 _ (by omega)))
  have g3 := g3.out.keep (ht.2.block _ (by omega) (hF0 _ (by omega)))
  have hs2 := ht.2.size
  replace ht := Lib.hid ht
  have c10 := g1.cell 0
  have c11 := g1.cell 1
  have c12 := g1.cell 2
  have c13 := g1.cell 3
  have c14 := g1.cell 4
  have c15 := g1.cell 5
  have c20 := g2.cell 0
  have c21 := g2.cell 1
  have f20 := g2.frozen 0
  have f21 := g2.frozen 1
  have c30 := g3.cell 0
  have c31 := g3.cell 1
  have f30 := g3.frozen 0
  have f31 := g3.frozen 1
  clear g1 g2 g3
  go_wp2_with fail
  refine bodyPost_ret (v := .agg #[.int .u64 0, .string ByteArray.empty]) (by simp [results, Tryd.results16, go_sem, c20, c21]; try rfl) rfl (fun r0 => ⟨?_, ?_⟩)
  · rw [hact.out]; rfl
  · rw [hact.out]
    refine rdo_end h.out.own hB1.out ht.out ?_
    repeat first | exact Chg.refl _ _ | refine Chg.drew ?_ | refine Chg.alloc ?_ _ | refine Chg.setCell ?_ (.inl ⟨by (first | omega | (simp; done) | (simp; omega)), by (first | omega | (simp; omega))⟩) _
set_option maxRecDepth 100000 in
set_option maxHeartbeats 1000000 in
theorem rdo_0 (b c o n : Int) (s : ByteArray) (hr : PAct.right ⟨0, b, c, o, n, s⟩ = true) (hsz : s.size ≤ 9223372036854775807) (hb0 : 0 ≤ b) (hn0 : 0 ≤ n ∧ n ≤ 18446744073709551615) (hf : S.faults ≤ 1000000000) (hla : S.last ≤ 1000000) :
    Calls Tryd.prog 16 #[.pointer (some ⟨hb, 0, none⟩), .agg #[.int .i64 0, .int .u64 b, .int .i64 c, .int .u64 o, .int .u64 n, .string s]] w (RDoPost F hb S ⟨0, b, c, o, n, s⟩ w) := by
  have hR := fun W => rright_any ⟨0, b, c, o, n, s⟩ W hsz
  rw [hr] at hR
  have hact : ∀ r, S.act ⟨0, b, c, o, n, s⟩ r = (⟨0, ByteArray.empty⟩, S) := by
    intro r
    unfold PHeap.act
    rw [if_neg (by rw [hr]; decide)]
    simp
  replace hR := Lib.hid hR
  clear hr
  replace hact : Hid _ := Lib.hid hact
  replace h := Lib.hid h
  have B1 := Blk.alloc (Blk.alloc (Blk.new w 34 #[.int .i64 0, .int .u64 b, .int .i64 c, .int .u64 o, .int .u64 n, .string s]) (.cells #[.int .u64 0, .string ⟨#[]⟩] 38)) (.cells #[.int .u64 0, .string ⟨#[]⟩] 38)
  have B2 := Blk.alloc (Blk.new (w.alloc (.cells #[.int .i64 0, .int .u64 b, .int .i64 c, .int .u64 o, .int .u64 n, .string s] 34)) 38 #[.int .u64 0, .string ⟨#[]⟩]) (.cells #[.int .u64 0, .string ⟨#[]⟩] 38)
  have B3 := Blk.new ((w.alloc (.cells #[.int .i64 0, .int .u64 b, .int .i64 c, .int .u64 o, .int .u64 n, .string s] 34)).alloc (.cells #[.int .u64 0, .string ⟨#[]⟩] 38)) 38 #[.int .u64 0, .string ⟨#[]⟩]
  have hW0 : Below w.heap.size w (((w.alloc (.cells #[.int .i64 0, .int .u64 b, .int .i64 c, .int .u64 o, .int .u64 n, .string s] 34)).alloc (.cells #[.int .u64 0, .string ⟨#[]⟩] 38)).alloc (.cells #[.int .u64 0, .string ⟨#[]⟩] 38)) := (((Below.refl _ _).alloc (Nat.le_refl _) _).alloc (by simp) _).alloc (by simp; omega) _
  simp only [World.size_alloc] at B2 B3
  replace B1 := Lib.hid B1
  replace B2 := Lib.hid B2
  replace B3 := Lib.hid B3
  replace hW0 := Lib.hid hW0
  go_enter Tryd.func16, Tryd.ntmps16
  go_wp2_with fail
  refine (hR.out _).mono ?_; rintro e w1 ⟨rfl, hb1⟩
  have hB1 := nx hW0.out (Nat.le_refl _) hb1
  have g1 := (B1.out.below hb1 (by simp; omega))
  have g2 := (B2.out.below hb1 (by simp))
  have g3 := (B3.out.below hb1 (by simp))
  have hs := hb1.size
  simp only [World.size_alloc] at hs
  clear hb1
  replace hB1 := Lib.hid hB1
  have c10 := g1.cell 0
  have c11 := g1.cell 1
  have c12 := g1.cell 2
  have c13 := g1.cell 3
  have c14 := g1.cell 4
  have c15 := g1.cell 5
  have c20 := g2.cell 0
  have c21 := g2.cell 1
  have f20 := g2.frozen 0
  have f21 := g2.frozen 1
  have c30 := g3.cell 0
  have c31 := g3.cell 1
  have f30 := g3.frozen 0
  have f31 := g3.frozen 1
  replace g1 := Lib.hid g1
  replace g2 := Lib.hid g2
  replace g3 := Lib.hid g3
  go_wp2_with fail
  refine bodyPost_ret (v := .agg #[.int .u64 0, .string ByteArray.empty]) (by simp [results, Tryd.results16, go_sem, c20, c21]; try rfl) rfl (fun r0 => ⟨?_, ?_⟩)
  · rw [hact.out]; rfl
  · rw [hact.out]
    refine rdo_end h.out.own hB1.out (RTurned.still (h.out.below hB1.out) (Below.refl _ _)) ?_
    repeat first | exact Chg.refl _ _ | refine Chg.drew ?_ | refine Chg.alloc ?_ _ | refine Chg.setCell ?_ (.inl ⟨by (first | omega | (simp; done) | (simp; omega)), by (first | omega | (simp; omega))⟩) _
theorem rdo_any (x : PAct) (hx : x.Ok) (hf : S.faults ≤ 1000000000) (hla : S.last ≤ 1000000) :
    Calls Tryd.prog 16 #[.pointer (some ⟨hb, 0, none⟩), x.val] w (RDoPost F hb S x w) := by
  by_cases hr : x.right = true
  · obtain ⟨k, b, c, o, n, s⟩ := x
    have hk : k = 0 ∨ k = 1 ∨ k = 2 ∨ k = 3 ∨ k = 4 ∨ k = 5 ∨ k = 6 ∨ k = 7 ∨ k = 8 ∨ k = 9 ∨ k = 10 := by
      have h1 := hr
      unfold PAct.right PAct.fit at h1
      simp only [Bool.and_eq_true] at h1
      have h2 := h1.2
      by_cases h3 : k = 0 ∨ k = 1 ∨ k = 2 ∨ k = 3 ∨ k = 4 ∨ k = 5 ∨ k = 6 ∨ k = 7 ∨ k = 8 ∨ k = 9 ∨ k = 10
      · exact h3
      · rw [if_neg (by omega), if_neg (by omega), if_neg (by omega), if_neg (by omega), if_neg (by omega), if_neg (by omega)] at h2
        cases h2
    obtain ⟨h1, h2, h3, h4, h5, h6⟩ := hx
    rcases hk with rfl | rfl | rfl | rfl | rfl | rfl | rfl | rfl | rfl | rfl | rfl
    · exact rdo_0 h b c o n s hr h6 h2.1 h5 hf hla
    · exact rdo_1 h b c o n s hr h6 h2.1 h5 hf hla
    · exact rdo_2 h b c o n s hr h6 h2.1 h5 hf hla
    · exact rdo_3 h b c o n s hr h6 h2.1 h5 hf hla
    · exact rdo_4 h b c o n s hr h6 h2.1 h5 hf hla
    · exact rdo_5 h b c o n s hr h6 h2.1 h5 hf hla
    · exact rdo_6 h b c o n s hr h6 h2.1 h5 hf hla
    · exact rdo_7 h b c o n s hr h6 h2.1 h5 hf hla
    · by_cases hl : S.locked = true
      · exact rdo_8a h b c o n s hr h6 h2.1 h5 hf hla hl
      · exact rdo_8b h b c o n s hr h6 h2.1 h5 hf hla (by simpa using hl)
    · exact rdo_9 h b c o n s hr h6 h2.1 h5 hf hla
    · exact rdo_10 h b c o n s hr h6 h2.1 h5 hf hla
  · exact rdo_no h x hx (by simpa using hr)
end
end Go.Proofs.YtjoaifdjmdihoaaDoor
