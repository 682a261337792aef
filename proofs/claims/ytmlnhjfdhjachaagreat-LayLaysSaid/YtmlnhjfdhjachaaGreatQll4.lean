import Derived.Deep.QuietTactic
import Derived.BigQuiet
import Derived.Outline
import Derived.Test.YtmlnhjfdhjachaaGreatQll3
/-
  What an act does to a heap: the heap's methods, each in one contract; acts done; which are ready. No condition.
-/
namespace Go.Proofs.YtmlnhjfdhjachaaGreat
set_option linter.unusedVariables false
open Go.ChangeShapes Go.WideShapes Go.ChangeAt Go.RowKit
open Go.ChangeMaps (setBlock)

def PHeap.word (S : PHeap) (b i : Int) : Int := match S.find b with | some x => x.nth i.toNat | none => 0
def PHeap.load (S : PHeap) (b i : Int) : Int × PHeap := if S.code b i = 0 then (S.word b i, S) else (0, S.fault)
def PHeap.store (S : PHeap) (b i v : Int) : PHeap := if S.code b i = 0 then S.set b i.toNat v else S.fault
def PHeap.bump (S : PHeap) (b i v : Int) : Int × PHeap := if S.code b i = 0 then (S.word b i, S.set b i.toNat (IntKind.u64.wrap (S.word b i + v))) else (0, S.fault)
def PHeap.swap (S : PHeap) (b i old v : Int) : Int × PHeap := if S.code b i = 0 then (S.word b i, if S.word b i = old then S.set b i.toNat v else S) else (0, S.fault)
def PHeap.make (S : PHeap) (n : Int) (t : ByteArray) (r : Nat) : Int × PHeap :=
  if 0 ≤ n ∧ n ≤ 256 then (S.last + 1, { S with blocks := S.blocks ++ [⟨S.last + 1, r, List.replicate n.toNat 0, t⟩], last := S.last + 1 }) else (0, S)
def PHeap.words (S : PHeap) (b : Int) : ByteArray × PHeap := match S.find b with | some x => (x.text, S) | none => (ByteArray.empty, S.fault)
def PHeap.drop (S : PHeap) (b : Int) : PHeap := match S.find b with | some _ => { S with blocks := S.blocks.filter fun y => y.key != b } | none => S.fault
def PHeap.lock (S : PHeap) : PHeap := { S with locked := true }
def PHeap.unlock (S : PHeap) : PHeap := if S.locked then { S with locked := false } else S.fault
def PHeap.size (S : PHeap) (b : Int) : Int := ((S.find b).map fun x => (x.cells.length : Int)).getD 0

structure PGot where
  word : Int
  text : ByteArray
def PGot.val (g : PGot) : Value := .agg #[.int .u64 g.word, .string g.text]
/-- An act's answer, and the heap behind it. -/
def PHeap.act (S : PHeap) (x : PAct) (r : Nat) : PGot × PHeap :=
  if x.right = false then (⟨0, ByteArray.empty⟩, S)
  else if x.kind = 1 ∨ x.kind = 10 then (⟨(S.load x.block x.cell).1, ByteArray.empty⟩, (S.load x.block x.cell).2)
  else if x.kind = 2 then (⟨0, ByteArray.empty⟩, S.store x.block x.cell x.new)
  else if x.kind = 3 then (⟨(S.swap x.block x.cell x.old x.new).1, ByteArray.empty⟩, (S.swap x.block x.cell x.old x.new).2)
  else if x.kind = 4 then (⟨(S.bump x.block x.cell x.new).1, ByteArray.empty⟩, (S.bump x.block x.cell x.new).2)
  else if x.kind = 5 then (⟨(S.make x.cell x.text r).1, ByteArray.empty⟩, (S.make x.cell x.text r).2)
  else if x.kind = 6 then (⟨0, (S.words x.block).1⟩, (S.words x.block).2)
  else if x.kind = 7 then (⟨0, ByteArray.empty⟩, S.drop x.block)
  else if x.kind = 8 then (⟨if S.locked then 0 else 1, ByteArray.empty⟩, S.lock)
  else if x.kind = 9 then (⟨0, ByteArray.empty⟩, S.unlock)
  else (⟨0, ByteArray.empty⟩, S)
def PHeap.ready (S : PHeap) (x : PAct) : Bool :=
  if x.right = false then true else if x.kind = 8 then !S.locked else if x.kind = 10 then decide (x.cell < S.size x.block) && (S.word x.block x.cell != 0) else true

theorem code_zero {S : PHeap} {b i : Int} (h : S.code b i = 0) : ∃ x, S.find b = some x ∧ 0 ≤ i ∧ i < x.cells.length := by
  unfold PHeap.code at h
  cases hx : S.find b with
  | none =>
    have := miss_le S b
    rw [hx] at h
    simp only at h
    omega
  | some x =>
    rw [hx] at h
    simp only at h
    split at h
    · rename_i hi
      exact ⟨x, rfl, hi⟩
    · omega
theorem word_eq {S : PHeap} {b i : Int} {x : PBlk} (hx : S.find b = some x) : S.word b i = x.nth i.toNat := by unfold PHeap.word; rw [hx]

section
variable {w : World} {hb : Nat} {S : PHeap} {F : Nat → Prop} (h : HeapIn w hb S F)
include h
theorem load_all (b i : Int) (hb0 : 0 ≤ b) (hf : S.faults < 9223372036854775807) :
    Calls Tryz.prog 27 #[.pointer (some ⟨hb, 0, none⟩), .int .u64 b, .int .i64 i] w fun e w' => e = .returned (.tuple #[.int .u64 (S.load b i).1, .int .i64 (S.code b i)]) ∧ Turned F hb (S.load b i).2 w w' := by
  unfold PHeap.load
  by_cases hc : S.code b i = 0
  · obtain ⟨x, hx, h0, h1⟩ := code_zero hc
    obtain ⟨j, rfl⟩ := Int.eq_ofNat_of_zero_le h0
    rw [if_pos hc, hc, word_eq hx, Int.toNat_natCast]
    exact load_hit h hx j (by omega)
  · rw [if_neg hc]
    exact load_bad h hb0 hc hf
theorem store_all (b i v : Int) (hb0 : 0 ≤ b) (hv : 0 ≤ v ∧ v ≤ 18446744073709551615) (hf : S.faults < 9223372036854775807) :
    Calls Tryz.prog 18 #[.pointer (some ⟨hb, 0, none⟩), .int .u64 b, .int .i64 i, .int .u64 v] w fun e w' => e = .returned (.int .i64 (S.code b i)) ∧ Turned F hb (S.store b i v) w w' := by
  unfold PHeap.store
  by_cases hc : S.code b i = 0
  · obtain ⟨x, hx, h0, h1⟩ := code_zero hc
    obtain ⟨j, rfl⟩ := Int.eq_ofNat_of_zero_le h0
    rw [if_pos hc, hc, Int.toNat_natCast]
    exact store_hit h hx j (by omega) hv
  · rw [if_neg hc]
    exact store_bad h hb0 hc hf
theorem bump_all (b i v : Int) (hb0 : 0 ≤ b) (hv : 0 ≤ v ∧ v ≤ 18446744073709551615) (hf : S.faults < 9223372036854775807) :
    Calls Tryz.prog 69 #[.pointer (some ⟨hb, 0, none⟩), .int .u64 b, .int .i64 i, .int .u64 v] w fun e w' => e = .returned (.tuple #[.int .u64 (S.bump b i v).1, .int .i64 (S.code b i)]) ∧ Turned F hb (S.bump b i v).2 w w' := by
  unfold PHeap.bump
  by_cases hc : S.code b i = 0
  · obtain ⟨x, hx, h0, h1⟩ := code_zero hc
    obtain ⟨j, rfl⟩ := Int.eq_ofNat_of_zero_le h0
    rw [if_pos hc, hc, word_eq hx, Int.toNat_natCast]
    exact bump_hit h hx j (by omega) hv
  · rw [if_neg hc]
    exact bump_bad h hb0 hc hf
theorem swap_all (b i old v : Int) (hb0 : 0 ≤ b) (hv : 0 ≤ v ∧ v ≤ 18446744073709551615) (hf : S.faults < 9223372036854775807) :
    Calls Tryz.prog 99 #[.pointer (some ⟨hb, 0, none⟩), .int .u64 b, .int .i64 i, .int .u64 old, .int .u64 v] w fun e w' => e = .returned (.tuple #[.int .u64 (S.swap b i old v).1, .int .i64 (S.code b i)]) ∧ Turned F hb (S.swap b i old v).2 w w' := by
  unfold PHeap.swap
  by_cases hc : S.code b i = 0
  · obtain ⟨x, hx, h0, h1⟩ := code_zero hc
    obtain ⟨j, rfl⟩ := Int.eq_ofNat_of_zero_le h0
    rw [if_pos hc, hc, word_eq hx, Int.toNat_natCast]
    exact swap_hit h hx j (by omega) hv
  · rw [if_neg hc]
    exact swap_bad h hb0 hc hf
theorem make_all (n : Int) (t : ByteArray) (hl : S.last < 9223372036854775807) :
    Calls Tryz.prog 58 #[.pointer (some ⟨hb, 0, none⟩), .int .i64 n, .string t] w fun e w' => ∃ r, e = .returned (.int .u64 (S.make n t r).1) ∧ Turned F hb (S.make n t r).2 w w' := by
  unfold PHeap.make
  by_cases hn : 0 ≤ n ∧ n ≤ 256
  · obtain ⟨j, rfl⟩ := Int.eq_ofNat_of_zero_le hn.1
    simp only [if_pos hn, Int.toNat_natCast]
    exact (make_any h j (by omega) t hl).mono fun e w' ⟨he, r, ht⟩ => ⟨r, he, ht⟩
  · simp only [if_neg hn]
    exact (make_bad hb n (by omega) t).mono fun e w' ⟨he, hw⟩ => ⟨0, he, hw ▸ Turned.still h (Below.refl _ _)⟩
theorem words_all (b : Int) (hb0 : 0 ≤ b) (hf : S.faults < 9223372036854775807) :
    Calls Tryz.prog 100 #[.pointer (some ⟨hb, 0, none⟩), .int .u64 b] w fun e w' => e = .returned (.tuple #[.string (S.words b).1, .int .i64 (if (S.find b).isSome then 0 else S.miss b)]) ∧ Turned F hb (S.words b).2 w w' := by
  unfold PHeap.words
  cases hx : S.find b with
  | some x => exact (words_hit h hx).mono fun e w' ⟨he, hw⟩ => ⟨he, Turned.still h hw⟩
  | none => exact words_bad h hb0 hx hf
theorem drop_all (b : Int) (hb0 : 0 ≤ b) (hf : S.faults < 9223372036854775807) :
    Calls Tryz.prog 101 #[.pointer (some ⟨hb, 0, none⟩), .int .u64 b] w fun e w' => e = .returned (.int .i64 (if (S.find b).isSome then 0 else S.miss b)) ∧ Turned F hb (S.drop b) w w' := by
  unfold PHeap.drop
  cases hx : S.find b with
  | some x => exact drop_hit h hx
  | none => exact drop_bad h hb0 hx hf
theorem lock_all :
    Calls Tryz.prog 102 #[.pointer (some ⟨hb, 0, none⟩)] w fun e w' => e = .returned (.bool (!S.locked)) ∧ Turned F hb S.lock w w' := by
  cases hl : S.locked with
  | false => exact lock_free h hl
  | true =>
    have : S.lock = S := by unfold PHeap.lock; rw [← hl]
    rw [this]
    exact (lock_taken h hl).mono fun e w' ⟨he, hw⟩ => ⟨he, hw ▸ Turned.still h (Below.refl _ _)⟩
theorem unlock_all (hf : S.faults < 9223372036854775807) :
    Calls Tryz.prog 103 #[.pointer (some ⟨hb, 0, none⟩)] w fun e w' => e = .returned (.bool S.locked) ∧ Turned F hb S.unlock w w' := by
  unfold PHeap.unlock
  cases hl : S.locked with
  | false => exact unlock_free h hl hf
  | true => exact unlock_taken h hl
end
end Go.Proofs.YtmlnhjfdhjachaaGreat

/-
  act.Do on a heap. No condition.
-/
namespace Go.Proofs.YtmlnhjfdhjachaaGreat
set_option linter.unusedVariables false
open Go.ChangeShapes Go.WideShapes Go.ChangeAt Go.RowKit
open Go.ChangeMaps (setBlock)

/-- The heap has turned in a call within; what the caller itself has made meanwhile may turn besides. -/
theorem do_end {w w1 w2 w3 : World} {F : Nat → Prop} {hb : Nat} {S' : PHeap} (hF : In F w) (hb1 : Below w.heap.size w w1) (t : Turned F hb S' w1 w2) (hc : Chg (fun k => w.heap.size ≤ k ∧ k < w1.heap.size) w2 w3) : Turned F hb S' w w3 := by
  have s1 := hb1.size
  have s2 := t.2.size
  have s3 := hc.size
  have hch : Chg F w w2 := (Chg.of_below hb1 F).trans t.2 fun _ h => .inl h
  refine ⟨(t.1.keep hc.size fun k hk => hc.block k (t.1.own k hk) ?_).mono (hF.nw (by omega)) ?_, hch.trans hc fun k hk => .inr hk.1⟩
  · rintro ⟨h1, h2⟩
    rcases hk with hk | hk
    · have := hF k hk; omega
    · omega
  · rintro k (hk | hk)
    · exact .inl hk
    · exact .inr ⟨by omega, by omega⟩
section
variable {w : World} {hb : Nat} {S : PHeap} {F : Nat → Prop} (h : HeapIn w hb S F)
include h
def DoPost (F : Nat → Prop) (hb : Nat) (S : PHeap) (x : PAct) (w : World) (e : Ending) (w' : World) : Prop := ∃ r, e = .returned (S.act x r).1.val ∧ Turned F hb (S.act x r).2 w w'
set_option maxRecDepth 100000 in
set_option maxHeartbeats 1000000 in
theorem do_no (x : PAct) (hx : x.Ok) (hr : x.right = false) :
    Calls Tryz.prog 68 #[.pointer (some ⟨hb, 0, none⟩), x.val] w (DoPost F hb S x w) := by
  have hR := fun W => right_any x W hx.text
  rw [hr] at hR
  have hp : ∀ (e : Ending) (w' : World), e = .returned (.agg #[.int .u64 0, .string ByteArray.empty]) → Below w.heap.size w w' → DoPost F hb S x w e w' := by
    rintro e w' rfl hb'
    refine ⟨0, ?_, ?_⟩
    · unfold PHeap.act; rw [if_pos hr]; rfl
    · unfold PHeap.act; rw [if_pos hr]; exact Turned.still h hb'
  replace hR := Lib.hid hR
  replace hp := Lib.hid hp
  clear hr h
  have hv : x.val = .agg #[.int .i64 x.kind, .int .u64 x.block, .int .i64 x.cell, .int .u64 x.old, .int .u64 x.new, .string x.text] := rfl
  rw [hv] at hR ⊢
  clear hv
  generalize x.kind = k at *
  generalize x.block = b at *
  generalize x.cell = c at *
  generalize x.old = o at *
  generalize x.new = n at *
  generalize x.text = s at *
  have B1 := Blk.alloc (Blk.alloc (Blk.new w 31 #[.int .i64 k, .int .u64 b, .int .i64 c, .int .u64 o, .int .u64 n, .string s]) (.cells #[.int .u64 0, .string ⟨#[]⟩] 52)) (.cells #[.int .u64 0, .string ⟨#[]⟩] 52)
  have B2 := Blk.alloc (Blk.new (w.alloc (.cells #[.int .i64 k, .int .u64 b, .int .i64 c, .int .u64 o, .int .u64 n, .string s] 31)) 52 #[.int .u64 0, .string ⟨#[]⟩]) (.cells #[.int .u64 0, .string ⟨#[]⟩] 52)
  have B3 := Blk.new ((w.alloc (.cells #[.int .i64 k, .int .u64 b, .int .i64 c, .int .u64 o, .int .u64 n, .string s] 31)).alloc (.cells #[.int .u64 0, .string ⟨#[]⟩] 52)) 52 #[.int .u64 0, .string ⟨#[]⟩]
  simp only [World.size_alloc] at B2 B3
  replace B1 := Lib.hid B1
  replace B2 := Lib.hid B2
  replace B3 := Lib.hid B3
  go_enter Tryz.func68, Tryz.ntmps68
  go_wp2_with fail
  refine (hR.out _).mono ?_; rintro e w1 ⟨rfl, hb1⟩
  have g2 := (B2.out.below hb1 (by simp))
  have g3 := (B3.out.below hb1 (by simp))
  have c20 := g2.cell 0
  have c21 := g2.cell 1
  have f20 := g2.frozen 0
  have f21 := g2.frozen 1
  have c30 := g3.cell 0
  have c31 := g3.cell 1
  have hs := hb1.size
  simp only [World.size_alloc] at hs
  clear g2 g3
  have hB1 : Below w.heap.size w w1 := nx ((((Below.refl _ _).alloc (Nat.le_refl _) _).alloc (by simp) _).alloc (by simp; omega) _) (Nat.le_refl _) hb1
  clear hb1
  go_wp2_with fail
  refine bodyPost_ret (v := .agg #[.int .u64 0, .string ByteArray.empty]) (by simp [results, Tryz.results68, go_sem, c20, c21]; try rfl) rfl (hp.out _ _ rfl ?_)
  (repeat first | exact Below.refl _ _ | assumption | refine Below.drew ?_ | refine below_drewN ?_ _ | refine Below.more_ ?_ _ | refine Below.setCell ?_ (by first | exact Nat.le_refl _ | (simp; done) | (simp; omega)) _)
theorem lockAs_all (l : Bool) (hl : S.locked = l) : Calls Tryz.prog 102 #[.pointer (some ⟨hb, 0, none⟩)] w fun e w' => e = .returned (.bool (!l)) ∧ Turned F hb S.lock w w' := by
  rw [← hl]
  exact lock_all h
theorem wordsEx_all (b : Int) (hb0 : 0 ≤ b) (hf : S.faults < 9223372036854775807) :
    Calls Tryz.prog 100 #[.pointer (some ⟨hb, 0, none⟩), .int .u64 b] w fun e w' => ∃ cd, e = .returned (.tuple #[.string (S.words b).1, .int .i64 cd]) ∧ Turned F hb (S.words b).2 w w' :=
  (words_all h b hb0 hf).mono fun _ _ ⟨he, ht⟩ => ⟨_, he, ht⟩
theorem dropEx_all (b : Int) (hb0 : 0 ≤ b) (hf : S.faults < 9223372036854775807) :
    Calls Tryz.prog 101 #[.pointer (some ⟨hb, 0, none⟩), .int .u64 b] w fun e w' => ∃ cd, e = .returned (.int .i64 cd) ∧ Turned F hb (S.drop b) w w' :=
  (drop_all h b hb0 hf).mono fun _ _ ⟨he, ht⟩ => ⟨_, he, ht⟩
set_option maxRecDepth 100000 in
set_option maxHeartbeats 1000000 in
theorem do_1 (b c o n : Int) (s : ByteArray) (hr : PAct.right ⟨1, b, c, o, n, s⟩ = true) (hsz : s.size ≤ 9223372036854775807) (hb0 : 0 ≤ b) (hn0 : 0 ≤ n ∧ n ≤ 18446744073709551615) (hf : S.faults < 9223372036854775807) (hla : S.last < 9223372036854775807) :
    Calls Tryz.prog 68 #[.pointer (some ⟨hb, 0, none⟩), .agg #[.int .i64 1, .int .u64 b, .int .i64 c, .int .u64 o, .int .u64 n, .string s]] w (DoPost F hb S ⟨1, b, c, o, n, s⟩ w) := by
  have hR := fun W => right_any ⟨1, b, c, o, n, s⟩ W hsz
  rw [hr] at hR
  have hact : ∀ r, S.act ⟨1, b, c, o, n, s⟩ r = (⟨(S.load b c).1, ByteArray.empty⟩, (S.load b c).2) := by
    intro r
    unfold PHeap.act
    rw [if_neg (by rw [hr]; decide)]
    simp
  replace hR := Lib.hid hR
  clear hr
  replace hact : Hid _ := Lib.hid hact
  replace h := Lib.hid h
  have B1 := Blk.alloc (Blk.alloc (Blk.new w 31 #[.int .i64 1, .int .u64 b, .int .i64 c, .int .u64 o, .int .u64 n, .string s]) (.cells #[.int .u64 0, .string ⟨#[]⟩] 52)) (.cells #[.int .u64 0, .string ⟨#[]⟩] 52)
  have B2 := Blk.alloc (Blk.new (w.alloc (.cells #[.int .i64 1, .int .u64 b, .int .i64 c, .int .u64 o, .int .u64 n, .string s] 31)) 52 #[.int .u64 0, .string ⟨#[]⟩]) (.cells #[.int .u64 0, .string ⟨#[]⟩] 52)
  have B3 := Blk.new ((w.alloc (.cells #[.int .i64 1, .int .u64 b, .int .i64 c, .int .u64 o, .int .u64 n, .string s] 31)).alloc (.cells #[.int .u64 0, .string ⟨#[]⟩] 52)) 52 #[.int .u64 0, .string ⟨#[]⟩]
  have hW0 : Below w.heap.size w (((w.alloc (.cells #[.int .i64 1, .int .u64 b, .int .i64 c, .int .u64 o, .int .u64 n, .string s] 31)).alloc (.cells #[.int .u64 0, .string ⟨#[]⟩] 52)).alloc (.cells #[.int .u64 0, .string ⟨#[]⟩] 52)) := (((Below.refl _ _).alloc (Nat.le_refl _) _).alloc (by simp) _).alloc (by simp; omega) _
  simp only [World.size_alloc] at B2 B3
  replace B1 := Lib.hid B1
  replace B2 := Lib.hid B2
  replace B3 := Lib.hid B3
  replace hW0 := Lib.hid hW0
  go_enter Tryz.func68, Tryz.ntmps68
  go_wp2_with fail
  refine (hR.out _).mono ?_; rintro e w1 ⟨rfl, hb1⟩
  have hB1 := nx hW0.out (Nat.le_refl _) hb1
  have g1 := (B1.out.below hb1 (by simp; omega))
  have g2 := (B2.out.below hb1 (by simp))
  have g3 := (B3.out.below hb1 (by simp))
  have hs := hb1.size
  simp only [World.size_alloc] at hs
  clear hb1
  replace hB1 := Lib.hid hB1
  have c10 := g1.cell 0
  have c11 := g1.cell 1
  have c12 := g1.cell 2
  have c13 := g1.cell 3
  have c14 := g1.cell 4
  have c15 := g1.cell 5
  have c20 := g2.cell 0
  have c21 := g2.cell 1
  have f20 := g2.frozen 0
  have f21 := g2.frozen 1
  have c30 := g3.cell 0
  have c31 := g3.cell 1
  have f30 := g3.frozen 0
  have f31 := g3.frozen 1
  replace g1 := Lib.hid g1
  replace g2 := Lib.hid g2
  replace g3 := Lib.hid g3
  go_wp2_with fail
  refine (load_all (h.out.below hB1.out) b c hb0 hf).mono ?_; rintro e w2 ⟨rfl, ht⟩
  clear c10 c11 c12 c13 c14 c15 c20 c21 f20 f21 c30 c31 f30 f31
  have hF0 : ∀ j, w.heap.size ≤ j → ¬ F j := fun j hj hf => by have := h.out.own j hf; omega
  have g1 := g1.out.keep (ht.2.block _ (by omega) (hF0 _ (by omega)))
  have g2 := g2.out.keep (ht.2.block _ (by omega) (hF0 _ (by omega)))
  have g3 := g3.out.keep (ht.2.block _ (by omega) (hF0 _ (by omega)))
  have hs2 := ht.2.size
  replace ht := Lib.hid ht
  have c10 := g1.cell 0
  have c11 := g1.cell 1
  have c12 := g1.cell 2
  have c13 := g1.cell 3
  have c14 := g1.cell 4
  have c15 := g1.cell 5
  have c20 := g2.cell 0
  have c21 := g2.cell 1
  have f20 := g2.frozen 0
  have f21 := g2.frozen 1
  have c30 := g3.cell 0
  have c31 := g3.cell 1
  have f30 := g3.frozen 0
  have f31 := g3.frozen 1
  clear g1 g2 g3
  go_wp2_with fail
  refine bodyPost_ret (v := .agg #[.int .u64 (S.load b c).1, .string ByteArray.empty]) (by simp [results, Tryz.results68, go_sem, c20, c21]; try rfl) rfl ⟨0, ?_, ?_⟩
  · rw [hact.out]; rfl
  · rw [hact.out]
    refine do_end h.out.own hB1.out ht.out ?_
    repeat first | exact Chg.refl _ _ | refine Chg.drew ?_ | refine Chg.alloc ?_ _ | refine Chg.setCell ?_ (.inl ⟨by (first | omega | (simp; done) | (simp; omega)), by (first | omega | (simp; omega))⟩) _
set_option maxRecDepth 100000 in
set_option maxHeartbeats 1000000 in
theorem do_10 (b c o n : Int) (s : ByteArray) (hr : PAct.right ⟨10, b, c, o, n, s⟩ = true) (hsz : s.size ≤ 9223372036854775807) (hb0 : 0 ≤ b) (hn0 : 0 ≤ n ∧ n ≤ 18446744073709551615) (hf : S.faults < 9223372036854775807) (hla : S.last < 9223372036854775807) :
    Calls Tryz.prog 68 #[.pointer (some ⟨hb, 0, none⟩), .agg #[.int .i64 10, .int .u64 b, .int .i64 c, .int .u64 o, .int .u64 n, .string s]] w (DoPost F hb S ⟨10, b, c, o, n, s⟩ w) := by
  have hR := fun W => right_any ⟨10, b, c, o, n, s⟩ W hsz
  rw [hr] at hR
  have hact : ∀ r, S.act ⟨10, b, c, o, n, s⟩ r = (⟨(S.load b c).1, ByteArray.empty⟩, (S.load b c).2) := by
    intro r
    unfold PHeap.act
    rw [if_neg (by rw [hr]; decide)]
    simp
  replace hR := Lib.hid hR
  clear hr
  replace hact : Hid _ := Lib.hid hact
  replace h := Lib.hid h
  have B1 := Blk.alloc (Blk.alloc (Blk.new w 31 #[.int .i64 10, .int .u64 b, .int .i64 c, .int .u64 o, .int .u64 n, .string s]) (.cells #[.int .u64 0, .string ⟨#[]⟩] 52)) (.cells #[.int .u64 0, .string ⟨#[]⟩] 52)
  have B2 := Blk.alloc (Blk.new (w.alloc (.cells #[.int .i64 10, .int .u64 b, .int .i64 c, .int .u64 o, .int .u64 n, .string s] 31)) 52 #[.int .u64 0, .string ⟨#[]⟩]) (.cells #[.int .u64 0, .string ⟨#[]⟩] 52)
  have B3 := Blk.new ((w.alloc (.cells #[.int .i64 10, .int .u64 b, .int .i64 c, .int .u64 o, .int .u64 n, .string s] 31)).alloc (.cells #[.int .u64 0, .string ⟨#[]⟩] 52)) 52 #[.int .u64 0, .string ⟨#[]⟩]
  have hW0 : Below w.heap.size w (((w.alloc (.cells #[.int .i64 10, .int .u64 b, .int .i64 c, .int .u64 o, .int .u64 n, .string s] 31)).alloc (.cells #[.int .u64 0, .string ⟨#[]⟩] 52)).alloc (.cells #[.int .u64 0, .string ⟨#[]⟩] 52)) := (((Below.refl _ _).alloc (Nat.le_refl _) _).alloc (by simp) _).alloc (by simp; omega) _
  simp only [World.size_alloc] at B2 B3
  replace B1 := Lib.hid B1
  replace B2 := Lib.hid B2
  replace B3 := Lib.hid B3
  replace hW0 := Lib.hid hW0
  go_enter Tryz.func68, Tryz.ntmps68
  go_wp2_with fail
  refine (hR.out _).mono ?_; rintro e w1 ⟨rfl, hb1⟩
  have hB1 := nx hW0.out (Nat.le_refl _) hb1
  have g1 := (B1.out.below hb1 (by simp; omega))
  have g2 := (B2.out.below hb1 (by simp))
  have g3 := (B3.out.below hb1 (by simp))
  have hs := hb1.size
  simp only [World.size_alloc] at hs
  clear hb1
  replace hB1 := Lib.hid hB1
  have c10 := g1.cell 0
  have c11 := g1.cell 1
  have c12 := g1.cell 2
  have c13 := g1.cell 3
  have c14 := g1.cell 4
  have c15 := g1.cell 5
  have c20 := g2.cell 0
  have c21 := g2.cell 1
  have f20 := g2.frozen 0
  have f21 := g2.frozen 1
  have c30 := g3.cell 0
  have c31 := g3.cell 1
  have f30 := g3.frozen 0
  have f31 := g3.frozen 1
  replace g1 := Lib.hid g1
  replace g2 := Lib.hid g2
  replace g3 := Lib.hid g3
  go_wp2_with fail
  refine (load_all (h.out.below hB1.out) b c hb0 hf).mono ?_; rintro e w2 ⟨rfl, ht⟩
  clear c10 c11 c12 c13 c14 c15 c20 c21 f20 f21 c30 c31 f30 f31
  have hF0 : ∀ j, w.heap.size ≤ j → ¬ F j := fun j hj hf => by have := h.out.own j hf; omega
  have g1 := g1.out.keep (ht.2.block _ (by omega) (hF0 _ (by omega)))
  have g2 := g2.out.keep (ht.2.block _ (by omega) (hF0 _ (by omega)))
  have g3 := g3.out.keep (ht.2.block _ (by omega) (hF0 _ (by omega)))
  have hs2 := ht.2.size
  replace ht := Lib.hid ht
  have c10 := g1.cell 0
  have c11 := g1.cell 1
  have c12 := g1.cell 2
  have c13 := g1.cell 3
  have c14 := g1.cell 4
  have c15 := g1.cell 5
  have c20 := g2.cell 0
  have c21 := g2.cell 1
  have f20 := g2.frozen 0
  have f21 := g2.frozen 1
  have c30 := g3.cell 0
  have c31 := g3.cell 1
  have f30 := g3.frozen 0
  have f31 := g3.frozen 1
  clear g1 g2 g3
  go_wp2_with fail
  refine bodyPost_ret (v := .agg #[.int .u64 (S.load b c).1, .string ByteArray.empty]) (by simp [results, Tryz.results68, go_sem, c20, c21]; try rfl) rfl ⟨0, ?_, ?_⟩
  · rw [hact.out]; rfl
  · rw [hact.out]
    refine do_end h.out.own hB1.out ht.out ?_
    repeat first | exact Chg.refl _ _ | refine Chg.drew ?_ | refine Chg.alloc ?_ _ | refine Chg.setCell ?_ (.inl ⟨by (first | omega | (simp; done) | (simp; omega)), by (first | omega | (simp; omega))⟩) _
set_option maxRecDepth 100000 in
set_option maxHeartbeats 1000000 in
theorem do_2 (b c o n : Int) (s : ByteArray) (hr : PAct.right ⟨2, b, c, o, n, s⟩ = true) (hsz : s.size ≤ 9223372036854775807) (hb0 : 0 ≤ b) (hn0 : 0 ≤ n ∧ n ≤ 18446744073709551615) (hf : S.faults < 9223372036854775807) (hla : S.last < 9223372036854775807) :
    Calls Tryz.prog 68 #[.pointer (some ⟨hb, 0, none⟩), .agg #[.int .i64 2, .int .u64 b, .int .i64 c, .int .u64 o, .int .u64 n, .string s]] w (DoPost F hb S ⟨2, b, c, o, n, s⟩ w) := by
  have hR := fun W => right_any ⟨2, b, c, o, n, s⟩ W hsz
  rw [hr] at hR
  have hact : ∀ r, S.act ⟨2, b, c, o, n, s⟩ r = (⟨0, ByteArray.empty⟩, S.store b c n) := by
    intro r
    unfold PHeap.act
    rw [if_neg (by rw [hr]; decide)]
    simp
  replace hR := Lib.hid hR
  clear hr
  replace hact : Hid _ := Lib.hid hact
  replace h := Lib.hid h
  have B1 := Blk.alloc (Blk.alloc (Blk.new w 31 #[.int .i64 2, .int .u64 b, .int .i64 c, .int .u64 o, .int .u64 n, .string s]) (.cells #[.int .u64 0, .string ⟨#[]⟩] 52)) (.cells #[.int .u64 0, .string ⟨#[]⟩] 52)
  have B2 := Blk.alloc (Blk.new (w.alloc (.cells #[.int .i64 2, .int .u64 b, .int .i64 c, .int .u64 o, .int .u64 n, .string s] 31)) 52 #[.int .u64 0, .string ⟨#[]⟩]) (.cells #[.int .u64 0, .string ⟨#[]⟩] 52)
  have B3 := Blk.new ((w.alloc (.cells #[.int .i64 2, .int .u64 b, .int .i64 c, .int .u64 o, .int .u64 n, .string s] 31)).alloc (.cells #[.int .u64 0, .string ⟨#[]⟩] 52)) 52 #[.int .u64 0, .string ⟨#[]⟩]
  have hW0 : Below w.heap.size w (((w.alloc (.cells #[.int .i64 2, .int .u64 b, .int .i64 c, .int .u64 o, .int .u64 n, .string s] 31)).alloc (.cells #[.int .u64 0, .string ⟨#[]⟩] 52)).alloc (.cells #[.int .u64 0, .string ⟨#[]⟩] 52)) := (((Below.refl _ _).alloc (Nat.le_refl _) _).alloc (by simp) _).alloc (by simp; omega) _
  simp only [World.size_alloc] at B2 B3
  replace B1 := Lib.hid B1
  replace B2 := Lib.hid B2
  replace B3 := Lib.hid B3
  replace hW0 := Lib.hid hW0
  go_enter Tryz.func68, Tryz.ntmps68
  go_wp2_with fail
  refine (hR.out _).mono ?_; rintro e w1 ⟨rfl, hb1⟩
  have hB1 := nx hW0.out (Nat.le_refl _) hb1
  have g1 := (B1.out.below hb1 (by simp; omega))
  have g2 := (B2.out.below hb1 (by simp))
  have g3 := (B3.out.below hb1 (by simp))
  have hs := hb1.size
  simp only [World.size_alloc] at hs
  clear hb1
  replace hB1 := Lib.hid hB1
  have c10 := g1.cell 0
  have c11 := g1.cell 1
  have c12 := g1.cell 2
  have c13 := g1.cell 3
  have c14 := g1.cell 4
  have c15 := g1.cell 5
  have c20 := g2.cell 0
  have c21 := g2.cell 1
  have f20 := g2.frozen 0
  have f21 := g2.frozen 1
  have c30 := g3.cell 0
  have c31 := g3.cell 1
  have f30 := g3.frozen 0
  have f31 := g3.frozen 1
  replace g1 := Lib.hid g1
  replace g2 := Lib.hid g2
  replace g3 := Lib.hid g3
  go_wp2_with fail
  refine (store_all (h.out.below hB1.out) b c n hb0 hn0 hf).mono ?_; rintro e w2 ⟨rfl, ht⟩
  clear c10 c11 c12 c13 c14 c15 c20 c21 f20 f21 c30 c31 f30 f31
  have hF0 : ∀ j, w.heap.size ≤ j → ¬ F j := fun j hj hf => by have := h.out.own j hf; omega
  have g1 := g1.out.keep (ht.2.block _ (by omega) (hF0 _ (by omega)))
  have g2 := g2.out.keep (ht.2.block _ (by omega) (hF0 _ (by omega)))
  have g3 := g3.out.keep (ht.2.block _ (by omega) (hF0 _ (by omega)))
  have hs2 := ht.2.size
  replace ht := Lib.hid ht
  have c10 := g1.cell 0
  have c11 := g1.cell 1
  have c12 := g1.cell 2
  have c13 := g1.cell 3
  have c14 := g1.cell 4
  have c15 := g1.cell 5
  have c20 := g2.cell 0
  have c21 := g2.cell 1
  have f20 := g2.frozen 0
  have f21 := g2.frozen 1
  have c30 := g3.cell 0
  have c31 := g3.cell 1
  have f30 := g3.frozen 0
  have f31 := g3.frozen 1
  clear g1 g2 g3
  go_wp2_with fail
  refine bodyPost_ret (v := .agg #[.int .u64 0, .string ByteArray.empty]) (by simp [results, Tryz.results68, go_sem, c20, c21]; try rfl) rfl ⟨0, ?_, ?_⟩
  · rw [hact.out]; rfl
  · rw [hact.out]
    refine do_end h.out.own hB1.out ht.out ?_
    repeat first | exact Chg.refl _ _ | refine Chg.drew ?_ | refine Chg.alloc ?_ _ | refine Chg.setCell ?_ (.inl ⟨by (first | omega | (simp; done) | (simp; omega)), by (first | omega | (simp; omega))⟩) _
set_option maxRecDepth 100000 in
set_option maxHeartbeats 1000000 in
theorem do_3 (b c o n : Int) (s : ByteArray) (hr : PAct.right ⟨3, b, c, o, n, s⟩ = true) (hsz : s.size ≤ 9223372036854775807) (hb0 : 0 ≤ b) (hn0 : 0 ≤ n ∧ n ≤ 18446744073709551615) (hf : S.faults < 9223372036854775807) (hla : S.last < 9223372036854775807) :
    Calls Tryz.prog 68 #[.pointer (some ⟨hb, 0, none⟩), .agg #[.int .i64 3, .int .u64 b, .int .i64 c, .int .u64 o, .int .u64 n, .string s]] w (DoPost F hb S ⟨3, b, c, o, n, s⟩ w) := by
  have hR := fun W => right_any ⟨3, b, c, o, n, s⟩ W hsz
  rw [hr] at hR
  have hact : ∀ r, S.act ⟨3, b, c, o, n, s⟩ r = (⟨(S.swap b c o n).1, ByteArray.empty⟩, (S.swap b c o n).2) := by
    intro r
    unfold PHeap.act
    rw [if_neg (by rw [hr]; decide)]
    simp
  replace hR := Lib.hid hR
  clear hr
  replace hact : Hid _ := Lib.hid hact
  replace h := Lib.hid h
  have B1 := Blk.alloc (Blk.alloc (Blk.new w 31 #[.int .i64 3, .int .u64 b, .int .i64 c, .int .u64 o, .int .u64 n, .string s]) (.cells #[.int .u64 0, .string ⟨#[]⟩] 52)) (.cells #[.int .u64 0, .string ⟨#[]⟩] 52)
  have B2 := Blk.alloc (Blk.new (w.alloc (.cells #[.int .i64 3, .int .u64 b, .int .i64 c, .int .u64 o, .int .u64 n, .string s] 31)) 52 #[.int .u64 0, .string ⟨#[]⟩]) (.cells #[.int .u64 0, .string ⟨#[]⟩] 52)
  have B3 := Blk.new ((w.alloc (.cells #[.int .i64 3, .int .u64 b, .int .i64 c, .int .u64 o, .int .u64 n, .string s] 31)).alloc (.cells #[.int .u64 0, .string ⟨#[]⟩] 52)) 52 #[.int .u64 0, .string ⟨#[]⟩]
  have hW0 : Below w.heap.size w (((w.alloc (.cells #[.int .i64 3, .int .u64 b, .int .i64 c, .int .u64 o, .int .u64 n, .string s] 31)).alloc (.cells #[.int .u64 0, .string ⟨#[]⟩] 52)).alloc (.cells #[.int .u64 0, .string ⟨#[]⟩] 52)) := (((Below.refl _ _).alloc (Nat.le_refl _) _).alloc (by simp) _).alloc (by simp; omega) _
  simp only [World.size_alloc] at B2 B3
  replace B1 := Lib.hid B1
  replace B2 := Lib.hid B2
  replace B3 := Lib.hid B3
  replace hW0 := Lib.hid hW0
  go_enter Tryz.func68, Tryz.ntmps68
  go_wp2_with fail
  refine (hR.out _).mono ?_; rintro e w1 ⟨rfl, hb1⟩
  have hB1 := nx hW0.out (Nat.le_refl _) hb1
  have g1 := (B1.out.below hb1 (by simp; omega))
  have g2 := (B2.out.below hb1 (by simp))
  have g3 := (B3.out.below hb1 (by simp))
  have hs := hb1.size
  simp only [World.size_alloc] at hs
  clear hb1
  replace hB1 := Lib.hid hB1
  have c10 := g1.cell 0
  have c11 := g1.cell 1
  have c12 := g1.cell 2
  have c13 := g1.cell 3
  have c14 := g1.cell 4
  have c15 := g1.cell 5
  have c20 := g2.cell 0
  have c21 := g2.cell 1
  have f20 := g2.frozen 0
  have f21 := g2.frozen 1
  have c30 := g3.cell 0
  have c31 := g3.cell 1
  have f30 := g3.frozen 0
  have f31 := g3.frozen 1
  replace g1 := Lib.hid g1
  replace g2 := Lib.hid g2
  replace g3 := Lib.hid g3
  go_wp2_with fail
  refine (swap_all (h.out.below hB1.out) b c o n hb0 hn0 hf).mono ?_; rintro e w2 ⟨rfl, ht⟩
  clear c10 c11 c12 c13 c14 c15 c20 c21 f20 f21 c30 c31 f30 f31
  have hF0 : ∀ j, w.heap.size ≤ j → ¬ F j := fun j hj hf => by have := h.out.own j hf; omega
  have g1 := g1.out.keep (ht.2.block _ (by omega) (hF0 _ (by omega)))
  have g2 := g2.out.keep (ht.2.block _ (by omega) (hF0 _ (by omega)))
  have g3 := g3.out.keep (ht.2.block _ (by omega) (hF0 _ (by omega)))
  have hs2 := ht.2.size
  replace ht := Lib.hid ht
  have c10 := g1.cell 0
  have c11 := g1.cell 1
  have c12 := g1.cell 2
  have c13 := g1.cell 3
  have c14 := g1.cell 4
  have c15 := g1.cell 5
  have c20 := g2.cell 0
  have c21 := g2.cell 1
  have f20 := g2.frozen 0
  have f21 := g2.frozen 1
  have c30 := g3.cell 0
  have c31 := g3.cell 1
  have f30 := g3.frozen 0
  have f31 := g3.frozen 1
  clear g1 g2 g3
  go_wp2_with fail
  refine bodyPost_ret (v := .agg #[.int .u64 (S.swap b c o n).1, .string ByteArray.empty]) (by simp [results, Tryz.results68, go_sem, c20, c21]; try rfl) rfl ⟨0, ?_, ?_⟩
  · rw [hact.out]; rfl
  · rw [hact.out]
    refine do_end h.out.own hB1.out ht.out ?_
    repeat first | exact Chg.refl _ _ | refine Chg.drew ?_ | refine Chg.alloc ?_ _ | refine Chg.setCell ?_ (.inl ⟨by (first | omega | (simp; done) | (simp; omega)), by (first | omega | (simp; omega))⟩) _
set_option maxRecDepth 100000 in
set_option maxHeartbeats 1000000 in
theorem do_4 (b c o n : Int) (s : ByteArray) (hr : PAct.right ⟨4, b, c, o, n, s⟩ = true) (hsz : s.size ≤ 9223372036854775807) (hb0 : 0 ≤ b) (hn0 : 0 ≤ n ∧ n ≤ 18446744073709551615) (hf : S.faults < 9223372036854775807) (hla : S.last < 9223372036854775807) :
    Calls Tryz.prog 68 #[.pointer (some ⟨hb, 0, none⟩), .agg #[.int .i64 4, .int .u64 b, .int .i64 c, .int .u64 o, .int .u64 n, .string s]] w (DoPost F hb S ⟨4, b, c, o, n, s⟩ w) := by
  have hR := fun W => right_any ⟨4, b, c, o, n, s⟩ W hsz
  rw [hr] at hR
  have hact : ∀ r, S.act ⟨4, b, c, o, n, s⟩ r = (⟨(S.bump b c n).1, ByteArray.empty⟩, (S.bump b c n).2) := by
    intro r
    unfold PHeap.act
    rw [if_neg (by rw [hr]; decide)]
    simp
  replace hR := Lib.hid hR
  clear hr
  replace hact : Hid _ := Lib.hid hact
  replace h := Lib.hid h
  have B1 := Blk.alloc (Blk.alloc (Blk.new w 31 #[.int .i64 4, .int .u64 b, .int .i64 c, .int .u64 o, .int .u64 n, .string s]) (.cells #[.int .u64 0, .string ⟨#[]⟩] 52)) (.cells #[.int .u64 0, .string ⟨#[]⟩] 52)
  have B2 := Blk.alloc (Blk.new (w.alloc (.cells #[.int .i64 4, .int .u64 b, .int .i64 c, .int .u64 o, .int .u64 n, .string s] 31)) 52 #[.int .u64 0, .string ⟨#[]⟩]) (.cells #[.int .u64 0, .string ⟨#[]⟩] 52)
  have B3 := Blk.new ((w.alloc (.cells #[.int .i64 4, .int .u64 b, .int .i64 c, .int .u64 o, .int .u64 n, .string s] 31)).alloc (.cells #[.int .u64 0, .string ⟨#[]⟩] 52)) 52 #[.int .u64 0, .string ⟨#[]⟩]
  have hW0 : Below w.heap.size w (((w.alloc (.cells #[.int .i64 4, .int .u64 b, .int .i64 c, .int .u64 o, .int .u64 n, .string s] 31)).alloc (.cells #[.int .u64 0, .string ⟨#[]⟩] 52)).alloc (.cells #[.int .u64 0, .string ⟨#[]⟩] 52)) := (((Below.refl _ _).alloc (Nat.le_refl _) _).alloc (by simp) _).alloc (by simp; omega) _
  simp only [World.size_alloc] at B2 B3
  replace B1 := Lib.hid B1
  replace B2 := Lib.hid B2
  replace B3 := Lib.hid B3
  replace hW0 := Lib.hid hW0
  go_enter Tryz.func68, Tryz.ntmps68
  go_wp2_with fail
  refine (hR.out _).mono ?_; rintro e w1 ⟨rfl, hb1⟩
  have hB1 := nx hW0.out (Nat.le_refl _) hb1
  have g1 := (B1.out.below hb1 (by simp; omega))
  have g2 := (B2.out.below hb1 (by simp))
  have g3 := (B3.out.below hb1 (by simp))
  have hs := hb1.size
  simp only [World.size_alloc] at hs
  clear hb1
  replace hB1 := Lib.hid hB1
  have c10 := g1.cell 0
  have c11 := g1.cell 1
  have c12 := g1.cell 2
  have c13 := g1.cell 3
  have c14 := g1.cell 4
  have c15 := g1.cell 5
  have c20 := g2.cell 0
  have c21 := g2.cell 1
  have f20 := g2.frozen 0
  have f21 := g2.frozen 1
  have c30 := g3.cell 0
  have c31 := g3.cell 1
  have f30 := g3.frozen 0
  have f31 := g3.frozen 1
  replace g1 := Lib.hid g1
  replace g2 := Lib.hid g2
  replace g3 := Lib.hid g3
  go_wp2_with fail
  refine (bump_all (h.out.below hB1.out) b c n hb0 hn0 hf).mono ?_; rintro e w2 ⟨rfl, ht⟩
  clear c10 c11 c12 c13 c14 c15 c20 c21 f20 f21 c30 c31 f30 f31
  have hF0 : ∀ j, w.heap.size ≤ j → ¬ F j := fun j hj hf => by have := h.out.own j hf; omega
  have g1 := g1.out.keep (ht.2.block _ (by omega) (hF0 _ (by omega)))
  have g2 := g2.out.keep (ht.2.block _ (by omega) (hF0 _ (by omega)))
  have g3 := g3.out.keep (ht.2.block _ (by omega) (hF0 _ (by omega)))
  have hs2 := ht.2.size
  replace ht := Lib.hid ht
  have c10 := g1.cell 0
  have c11 := g1.cell 1
  have c12 := g1.cell 2
  have c13 := g1.cell 3
  have c14 := g1.cell 4
  have c15 := g1.cell 5
  have c20 := g2.cell 0
  have c21 := g2.cell 1
  have f20 := g2.frozen 0
  have f21 := g2.frozen 1
  have c30 := g3.cell 0
  have c31 := g3.cell 1
  have f30 := g3.frozen 0
  have f31 := g3.frozen 1
  clear g1 g2 g3
  go_wp2_with fail
  refine bodyPost_ret (v := .agg #[.int .u64 (S.bump b c n).1, .string ByteArray.empty]) (by simp [results, Tryz.results68, go_sem, c20, c21]; try rfl) rfl ⟨0, ?_, ?_⟩
  · rw [hact.out]; rfl
  · rw [hact.out]
    refine do_end h.out.own hB1.out ht.out ?_
    repeat first | exact Chg.refl _ _ | refine Chg.drew ?_ | refine Chg.alloc ?_ _ | refine Chg.setCell ?_ (.inl ⟨by (first | omega | (simp; done) | (simp; omega)), by (first | omega | (simp; omega))⟩) _
set_option maxRecDepth 100000 in
set_option maxHeartbeats 1000000 in
theorem do_5 (b c o n : Int) (s : ByteArray) (hr : PAct.right ⟨5, b, c, o, n, s⟩ = true) (hsz : s.size ≤ 9223372036854775807) (hb0 : 0 ≤ b) (hn0 : 0 ≤ n ∧ n ≤ 18446744073709551615) (hf : S.faults < 9223372036854775807) (hla : S.last < 9223372036854775807) :
    Calls Tryz.prog 68 #[.pointer (some ⟨hb, 0, none⟩), .agg #[.int .i64 5, .int .u64 b, .int .i64 c, .int .u64 o, .int .u64 n, .string s]] w (DoPost F hb S ⟨5, b, c, o, n, s⟩ w) := by
  have hR := fun W => right_any ⟨5, b, c, o, n, s⟩ W hsz
  rw [hr] at hR
  have hact : ∀ r, S.act ⟨5, b, c, o, n, s⟩ r = (⟨(S.make c s r).1, ByteArray.empty⟩, (S.make c s r).2) := by
    intro r
    unfold PHeap.act
    rw [if_neg (by rw [hr]; decide)]
    simp
  replace hR := Lib.hid hR
  clear hr
  replace hact : Hid _ := Lib.hid hact
  replace h := Lib.hid h
  have B1 := Blk.alloc (Blk.alloc (Blk.new w 31 #[.int .i64 5, .int .u64 b, .int .i64 c, .int .u64 o, .int .u64 n, .string s]) (.cells #[.int .u64 0, .string ⟨#[]⟩] 52)) (.cells #[.int .u64 0, .string ⟨#[]⟩] 52)
  have B2 := Blk.alloc (Blk.new (w.alloc (.cells #[.int .i64 5, .int .u64 b, .int .i64 c, .int .u64 o, .int .u64 n, .string s] 31)) 52 #[.int .u64 0, .string ⟨#[]⟩]) (.cells #[.int .u64 0, .string ⟨#[]⟩] 52)
  have B3 := Blk.new ((w.alloc (.cells #[.int .i64 5, .int .u64 b, .int .i64 c, .int .u64 o, .int .u64 n, .string s] 31)).alloc (.cells #[.int .u64 0, .string ⟨#[]⟩] 52)) 52 #[.int .u64 0, .string ⟨#[]⟩]
  have hW0 : Below w.heap.size w (((w.alloc (.cells #[.int .i64 5, .int .u64 b, .int .i64 c, .int .u64 o, .int .u64 n, .string s] 31)).alloc (.cells #[.int .u64 0, .string ⟨#[]⟩] 52)).alloc (.cells #[.int .u64 0, .string ⟨#[]⟩] 52)) := (((Below.refl _ _).alloc (Nat.le_refl _) _).alloc (by simp) _).alloc (by simp; omega) _
  simp only [World.size_alloc] at B2 B3
  replace B1 := Lib.hid B1
  replace B2 := Lib.hid B2
  replace B3 := Lib.hid B3
  replace hW0 := Lib.hid hW0
  go_enter Tryz.func68, Tryz.ntmps68
  go_wp2_with fail
  refine (hR.out _).mono ?_; rintro e w1 ⟨rfl, hb1⟩
  have hB1 := nx hW0.out (Nat.le_refl _) hb1
  have g1 := (B1.out.below hb1 (by simp; omega))
  have g2 := (B2.out.below hb1 (by simp))
  have g3 := (B3.out.below hb1 (by simp))
  have hs := hb1.size
  simp only [World.size_alloc] at hs
  clear hb1
  replace hB1 := Lib.hid hB1
  have c10 := g1.cell 0
  have c11 := g1.cell 1
  have c12 := g1.cell 2
  have c13 := g1.cell 3
  have c14 := g1.cell 4
  have c15 := g1.cell 5
  have c20 := g2.cell 0
  have c21 := g2.cell 1
  have f20 := g2.frozen 0
  have f21 := g2.frozen 1
  have c30 := g3.cell 0
  have c31 := g3.cell 1
  have f30 := g3.frozen 0
  have f31 := g3.frozen 1
  replace g1 := Lib.hid g1
  replace g2 := Lib.hid g2
  replace g3 := Lib.hid g3
  go_wp2_with fail
  refine (make_all (h.out.below hB1.out) c s hla).mono ?_; rintro e w2 ⟨r0, rfl, ht⟩
  clear c10 c11 c12 c13 c14 c15 c20 c21 f20 f21 c30 c31 f30 f31
  have hF0 : ∀ j, w.heap.size ≤ j → ¬ F j := fun j hj hf => by have := h.out.own j hf; omega
  have g1 := g1.out.keep (ht.2.block _ (by omega) (hF0 _ (by omega)))
  have g2 := g2.out.keep (ht.2.block _ (by omega) (hF0 _ (by omega)))
  have g3 := g3.out.keep (ht.2.block _ (by omega) (hF0 _ (by omega)))
  have hs2 := ht.2.size
  replace ht := Lib.hid ht
  have c10 := g1.cell 0
  have c11 := g1.cell 1
  have c12 := g1.cell 2
  have c13 := g1.cell 3
  have c14 := g1.cell 4
  have c15 := g1.cell 5
  have c20 := g2.cell 0
  have c21 := g2.cell 1
  have f20 := g2.frozen 0
  have f21 := g2.frozen 1
  have c30 := g3.cell 0
  have c31 := g3.cell 1
  have f30 := g3.frozen 0
  have f31 := g3.frozen 1
  clear g1 g2 g3
  go_wp2_with fail
  refine bodyPost_ret (v := .agg #[.int .u64 (S.make c s r0).1, .string ByteArray.empty]) (by simp [results, Tryz.results68, go_sem, c20, c21]; try rfl) rfl ⟨r0, ?_, ?_⟩
  · rw [hact.out]; rfl
  · rw [hact.out]
    refine do_end h.out.own hB1.out ht.out ?_
    repeat first | exact Chg.refl _ _ | refine Chg.drew ?_ | refine Chg.alloc ?_ _ | refine Chg.setCell ?_ (.inl ⟨by (first | omega | (simp; done) | (simp; omega)), by (first | omega | (simp; omega))⟩) _
set_option maxRecDepth 100000 in
set_option maxHeartbeats 1000000 in
theorem do_6 (b c o n : Int) (s : ByteArray) (hr : PAct.right ⟨6, b, c, o, n, s⟩ = true) (hsz : s.size ≤ 9223372036854775807) (hb0 : 0 ≤ b) (hn0 : 0 ≤ n ∧ n ≤ 18446744073709551615) (hf : S.faults < 9223372036854775807) (hla : S.last < 9223372036854775807) :
    Calls Tryz.prog 68 #[.pointer (some ⟨hb, 0, none⟩), .agg #[.int .i64 6, .int .u64 b, .int .i64 c, .int .u64 o, .int .u64 n, .string s]] w (DoPost F hb S ⟨6, b, c, o, n, s⟩ w) := by
  have hR := fun W => right_any ⟨6, b, c, o, n, s⟩ W hsz
  rw [hr] at hR
  have hact : ∀ r, S.act ⟨6, b, c, o, n, s⟩ r = (⟨0, (S.words b).1⟩, (S.words b).2) := by
    intro r
    unfold PHeap.act
    rw [if_neg (by rw [hr]; decide)]
    simp
  replace hR := Lib.hid hR
  clear hr
  replace hact : Hid _ := Lib.hid hact
  replace h := Lib.hid h
  have B1 := Blk.alloc (Blk.alloc (Blk.new w 31 #[.int .i64 6, .int .u64 b, .int .i64 c, .int .u64 o, .int .u64 n, .string s]) (.cells #[.int .u64 0, .string ⟨#[]⟩] 52)) (.cells #[.int .u64 0, .string ⟨#[]⟩] 52)
  have B2 := Blk.alloc (Blk.new (w.alloc (.cells #[.int .i64 6, .int .u64 b, .int .i64 c, .int .u64 o, .int .u64 n, .string s] 31)) 52 #[.int .u64 0, .string ⟨#[]⟩]) (.cells #[.int .u64 0, .string ⟨#[]⟩] 52)
  have B3 := Blk.new ((w.alloc (.cells #[.int .i64 6, .int .u64 b, .int .i64 c, .int .u64 o, .int .u64 n, .string s] 31)).alloc (.cells #[.int .u64 0, .string ⟨#[]⟩] 52)) 52 #[.int .u64 0, .string ⟨#[]⟩]
  have hW0 : Below w.heap.size w (((w.alloc (.cells #[.int .i64 6, .int .u64 b, .int .i64 c, .int .u64 o, .int .u64 n, .string s] 31)).alloc (.cells #[.int .u64 0, .string ⟨#[]⟩] 52)).alloc (.cells #[.int .u64 0, .string ⟨#[]⟩] 52)) := (((Below.refl _ _).alloc (Nat.le_refl _) _).alloc (by simp) _).alloc (by simp; omega) _
  simp only [World.size_alloc] at B2 B3
  replace B1 := Lib.hid B1
  replace B2 := Lib.hid B2
  replace B3 := Lib.hid B3
  replace hW0 := Lib.hid hW0
  go_enter Tryz.func68, Tryz.ntmps68
  go_wp2_with fail
  refine (hR.out _).mono ?_; rintro e w1 ⟨rfl, hb1⟩
  have hB1 := nx hW0.out (Nat.le_refl _) hb1
  have g1 := (B1.out.below hb1 (by simp; omega))
  have g2 := (B2.out.below hb1 (by simp))
  have g3 := (B3.out.below hb1 (by simp))
  have hs := hb1.size
  simp only [World.size_alloc] at hs
  clear hb1
  replace hB1 := Lib.hid hB1
  have c10 := g1.cell 0
  have c11 := g1.cell 1
  have c12 := g1.cell 2
  have c13 := g1.cell 3
  have c14 := g1.cell 4
  have c15 := g1.cell 5
  have c20 := g2.cell 0
  have c21 := g2.cell 1
  have f20 := g2.frozen 0
  have f21 := g2.frozen 1
  have c30 := g3.cell 0
  have c31 := g3.cell 1
  have f30 := g3.frozen 0
  have f31 := g3.frozen 1
  replace g1 := Lib.hid g1
  replace g2 := Lib.hid g2
  replace g3 := Lib.hid g3
  go_wp2_with fail
  refine (wordsEx_all (h.out.below hB1.out) b hb0 hf).mono ?_; rintro e w2 ⟨cd, rfl, ht⟩
  clear c10 c11 c12 c13 c14 c15 c20 c21 f20 f21 c30 c31 f30 f31
  have hF0 : ∀ j, w.heap.size ≤ j → ¬ F j := fun j hj hf => by have := h.out.own j hf; omega
  have g1 := g1.out.keep (ht.2.block _ (by omega) (hF0 _ (by omega)))
  have g2 := g2.out.keep (ht.2.block _ (by omega) (hF0 _ (by omega)))
  have g3 := g3.out.keep (ht.2.block _ (by omega) (hF0 _ (by omega)))
  have hs2 := ht.2.size
  replace ht := Lib.hid ht
  have c10 := g1.cell 0
  have c11 := g1.cell 1
  have c12 := g1.cell 2
  have c13 := g1.cell 3
  have c14 := g1.cell 4
  have c15 := g1.cell 5
  have c20 := g2.cell 0
  have c21 := g2.cell 1
  have f20 := g2.frozen 0
  have f21 := g2.frozen 1
  have c30 := g3.cell 0
  have c31 := g3.cell 1
  have f30 := g3.frozen 0
  have f31 := g3.frozen 1
  clear g1 g2 g3
  go_wp2_with fail
  refine bodyPost_ret (v := .agg #[.int .u64 0, .string (S.words b).1]) (by simp [results, Tryz.results68, go_sem, c20, c21]; try rfl) rfl ⟨0, ?_, ?_⟩
  · rw [hact.out]; rfl
  · rw [hact.out]
    refine do_end h.out.own hB1.out ht.out ?_
    repeat first | exact Chg.refl _ _ | refine Chg.drew ?_ | refine Chg.alloc ?_ _ | refine Chg.setCell ?_ (.inl ⟨by (first | omega | (simp; done) | (simp; omega)), by (first | omega | (simp; omega))⟩) _
set_option maxRecDepth 100000 in
set_option maxHeartbeats 1000000 in
theorem do_7 (b c o n : Int) (s : ByteArray) (hr : PAct.right ⟨7, b, c, o, n, s⟩ = true) (hsz : s.size ≤ 9223372036854775807) (hb0 : 0 ≤ b) (hn0 : 0 ≤ n ∧ n ≤ 18446744073709551615) (hf : S.faults < 9223372036854775807) (hla : S.last < 9223372036854775807) :
    Calls Tryz.prog 68 #[.pointer (some ⟨hb, 0, none⟩), .agg #[.int .i64 7, .int .u64 b, .int .i64 c, .int .u64 o, .int .u64 n, .string s]] w (DoPost F hb S ⟨7, b, c, o, n, s⟩ w) := by
  have hR := fun W => right_any ⟨7, b, c, o, n, s⟩ W hsz
  rw [hr] at hR
  have hact : ∀ r, S.act ⟨7, b, c, o, n, s⟩ r = (⟨0, ByteArray.empty⟩, S.drop b) := by
    intro r
    unfold PHeap.act
    rw [if_neg (by rw [hr]; decide)]
    simp
  replace hR := Lib.hid hR
  clear hr
  replace hact : Hid _ := Lib.hid hact
  replace h := Lib.hid h
  have B1 := Blk.alloc (Blk.alloc (Blk.new w 31 #[.int .i64 7, .int .u64 b, .int .i64 c, .int .u64 o, .int .u64 n, .string s]) (.cells #[.int .u64 0, .string ⟨#[]⟩] 52)) (.cells #[.int .u64 0, .string ⟨#[]⟩] 52)
  have B2 := Blk.alloc (Blk.new (w.alloc (.cells #[.int .i64 7, .int .u64 b, .int .i64 c, .int .u64 o, .int .u64 n, .string s] 31)) 52 #[.int .u64 0, .string ⟨#[]⟩]) (.cells #[.int .u64 0, .string ⟨#[]⟩] 52)
  have B3 := Blk.new ((w.alloc (.cells #[.int .i64 7, .int .u64 b, .int .i64 c, .int .u64 o, .int .u64 n, .string s] 31)).alloc (.cells #[.int .u64 0, .string ⟨#[]⟩] 52)) 52 #[.int .u64 0, .string ⟨#[]⟩]
  have hW0 : Below w.heap.size w (((w.alloc (.cells #[.int .i64 7, .int .u64 b, .int .i64 c, .int .u64 o, .int .u64 n, .string s] 31)).alloc (.cells #[.int .u64 0, .string ⟨#[]⟩] 52)).alloc (.cells #[.int .u64 0, .string ⟨#[]⟩] 52)) := (((Below.refl _ _).alloc (Nat.le_refl _) _).alloc (by simp) _).alloc (by simp; omega) _
  simp only [World.size_alloc] at B2 B3
  replace B1 := Lib.hid B1
  replace B2 := Lib.hid B2
  replace B3 := Lib.hid B3
  replace hW0 := Lib.hid hW0
  go_enter Tryz.func68, Tryz.ntmps68
  go_wp2_with fail
  refine (hR.out _).mono ?_; rintro e w1 ⟨rfl, hb1⟩
  have hB1 := nx hW0.out (Nat.le_refl _) hb1
  have g1 := (B1.out.below hb1 (by simp; omega))
  have g2 := (B2.out.below hb1 (by simp))
  have g3 := (B3.out.below hb1 (by simp))
  have hs := hb1.size
  simp only [World.size_alloc] at hs
  clear hb1
  replace hB1 := Lib.hid hB1
  have c10 := g1.cell 0
  have c11 := g1.cell 1
  have c12 := g1.cell 2
  have c13 := g1.cell 3
  have c14 := g1.cell 4
  have c15 := g1.cell 5
  have c20 := g2.cell 0
  have c21 := g2.cell 1
  have f20 := g2.frozen 0
  have f21 := g2.frozen 1
  have c30 := g3.cell 0
  have c31 := g3.cell 1
  have f30 := g3.frozen 0
  have f31 := g3.frozen 1
  replace g1 := Lib.hid g1
  replace g2 := Lib.hid g2
  replace g3 := Lib.hid g3
  go_wp2_with fail
  refine (dropEx_all (h.out.below hB1.out) b hb0 hf).mono ?_; rintro e w2 ⟨cd, rfl, ht⟩
  clear c10 c11 c12 c13 c14 c15 c20 c21 f20 f21 c30 c31 f30 f31
  have hF0 : ∀ j, w.heap.size ≤ j → ¬ F j := fun j hj hf => by have := h.out.own j hf; omega
  have g1 := g1.out.keep (ht.2.block _ (by omega) (hF0 _ (by omega)))
  have g2 := g2.out.keep (ht.2.block _ (by omega) (hF0 _ (by omega)))
  have g3 := g3.out.keep (ht.2.block _ (by omega) (hF0 _ (by omega)))
  have hs2 := ht.2.size
  replace ht := Lib.hid ht
  have c10 := g1.cell 0
  have c11 := g1.cell 1
  have c12 := g1.cell 2
  have c13 := g1.cell 3
  have c14 := g1.cell 4
  have c15 := g1.cell 5
  have c20 := g2.cell 0
  have c21 := g2.cell 1
  have f20 := g2.frozen 0
  have f21 := g2.frozen 1
  have c30 := g3.cell 0
  have c31 := g3.cell 1
  have f30 := g3.frozen 0
  have f31 := g3.frozen 1
  clear g1 g2 g3
  go_wp2_with fail
  refine bodyPost_ret (v := .agg #[.int .u64 0, .string ByteArray.empty]) (by simp [results, Tryz.results68, go_sem, c20, c21]; try rfl) rfl ⟨0, ?_, ?_⟩
  · rw [hact.out]; rfl
  · rw [hact.out]
    refine do_end h.out.own hB1.out ht.out ?_
    repeat first | exact Chg.refl _ _ | refine Chg.drew ?_ | refine Chg.alloc ?_ _ | refine Chg.setCell ?_ (.inl ⟨by (first | omega | (simp; done) | (simp; omega)), by (first | omega | (simp; omega))⟩) _
set_option maxRecDepth 100000 in
set_option maxHeartbeats 1000000 in
theorem do_8a (b c o n : Int) (s : ByteArray) (hr : PAct.right ⟨8, b, c, o, n, s⟩ = true) (hsz : s.size ≤ 9223372036854775807) (hb0 : 0 ≤ b) (hn0 : 0 ≤ n ∧ n ≤ 18446744073709551615) (hf : S.faults < 9223372036854775807) (hla : S.last < 9223372036854775807) (hl : S.locked = true) :
    Calls Tryz.prog 68 #[.pointer (some ⟨hb, 0, none⟩), .agg #[.int .i64 8, .int .u64 b, .int .i64 c, .int .u64 o, .int .u64 n, .string s]] w (DoPost F hb S ⟨8, b, c, o, n, s⟩ w) := by
  have hR := fun W => right_any ⟨8, b, c, o, n, s⟩ W hsz
  rw [hr] at hR
  have hact : ∀ r, S.act ⟨8, b, c, o, n, s⟩ r = (⟨0, ByteArray.empty⟩, S.lock) := by
    intro r
    unfold PHeap.act
    rw [if_neg (by rw [hr]; decide)]
    simp [hl]
  replace hR := Lib.hid hR
  clear hr
  replace hact : Hid _ := Lib.hid hact
  replace h := Lib.hid h
  replace hl := Lib.hid hl
  have B1 := Blk.alloc (Blk.alloc (Blk.new w 31 #[.int .i64 8, .int .u64 b, .int .i64 c, .int .u64 o, .int .u64 n, .string s]) (.cells #[.int .u64 0, .string ⟨#[]⟩] 52)) (.cells #[.int .u64 0, .string ⟨#[]⟩] 52)
  have B2 := Blk.alloc (Blk.new (w.alloc (.cells #[.int .i64 8, .int .u64 b, .int .i64 c, .int .u64 o, .int .u64 n, .string s] 31)) 52 #[.int .u64 0, .string ⟨#[]⟩]) (.cells #[.int .u64 0, .string ⟨#[]⟩] 52)
  have B3 := Blk.new ((w.alloc (.cells #[.int .i64 8, .int .u64 b, .int .i64 c, .int .u64 o, .int .u64 n, .string s] 31)).alloc (.cells #[.int .u64 0, .string ⟨#[]⟩] 52)) 52 #[.int .u64 0, .string ⟨#[]⟩]
  have hW0 : Below w.heap.size w (((w.alloc (.cells #[.int .i64 8, .int .u64 b, .int .i64 c, .int .u64 o, .int .u64 n, .string s] 31)).alloc (.cells #[.int .u64 0, .string ⟨#[]⟩] 52)).alloc (.cells #[.int .u64 0, .string ⟨#[]⟩] 52)) := (((Below.refl _ _).alloc (Nat.le_refl _) _).alloc (by simp) _).alloc (by simp; omega) _
  simp only [World.size_alloc] at B2 B3
  replace B1 := Lib.hid B1
  replace B2 := Lib.hid B2
  replace B3 := Lib.hid B3
  replace hW0 := Lib.hid hW0
  go_enter Tryz.func68, Tryz.ntmps68
  go_wp2_with fail
  refine (hR.out _).mono ?_; rintro e w1 ⟨rfl, hb1⟩
  have hB1 := nx hW0.out (Nat.le_refl _) hb1
  have g1 := (B1.out.below hb1 (by simp; omega))
  have g2 := (B2.out.below hb1 (by simp))
  have g3 := (B3.out.below hb1 (by simp))
  have hs := hb1.size
  simp only [World.size_alloc] at hs
  clear hb1
  replace hB1 := Lib.hid hB1
  have c10 := g1.cell 0
  have c11 := g1.cell 1
  have c12 := g1.cell 2
  have c13 := g1.cell 3
  have c14 := g1.cell 4
  have c15 := g1.cell 5
  have c20 := g2.cell 0
  have c21 := g2.cell 1
  have f20 := g2.frozen 0
  have f21 := g2.frozen 1
  have c30 := g3.cell 0
  have c31 := g3.cell 1
  have f30 := g3.frozen 0
  have f31 := g3.frozen 1
  replace g1 := Lib.hid g1
  replace g2 := Lib.hid g2
  replace g3 := Lib.hid g3
  go_wp2_with fail
  refine (lockAs_all (h.out.below hB1.out) true hl.out).mono ?_; rintro e w2 ⟨rfl, ht⟩
  clear c10 c11 c12 c13 c14 c15 c20 c21 f20 f21 c30 c31 f30 f31
  have hF0 : ∀ j, w.heap.size ≤ j → ¬ F j := fun j hj hf => by have := h.out.own j hf; omega
  have g1 := g1.out.keep (ht.2.block _ (by omega) (hF0 _ (by omega)))
  have g2 := g2.out.keep (ht.2.block _ (by omega) (hF0 _ (by omega)))
  have g3 := g3.out.keep (ht.2.block _ (by omega) (hF0 _ (by omega)))
  have hs2 := ht.2.size
  replace ht := Lib.hid ht
  have c10 := g1.cell 0
  have c11 := g1.cell 1
  have c12 := g1.cell 2
  have c13 := g1.cell 3
  have c14 := g1.cell 4
  have c15 := g1.cell 5
  have c20 := g2.cell 0
  have c21 := g2.cell 1
  have f20 := g2.frozen 0
  have f21 := g2.frozen 1
  have c30 := g3.cell 0
  have c31 := g3.cell 1
  have f30 := g3.frozen 0
  have f31 := g3.frozen 1
  clear g1 g2 g3
  go_wp2_with fail
  refine bodyPost_ret (v := .agg #[.int .u64 0, .string ByteArray.empty]) (by simp [results, Tryz.results68, go_sem, c20, c21]; try rfl) rfl ⟨0, ?_, ?_⟩
  · rw [hact.out]; rfl
  · rw [hact.out]
    refine do_end h.out.own hB1.out ht.out ?_
    repeat first | exact Chg.refl _ _ | refine Chg.drew ?_ | refine Chg.alloc ?_ _ | refine Chg.setCell ?_ (.inl ⟨by (first | omega | (simp; done) | (simp; omega)), by (first | omega | (simp; omega))⟩) _
set_option maxRecDepth 100000 in
set_option maxHeartbeats 1000000 in
theorem do_8b (b c o n : Int) (s : ByteArray) (hr : PAct.right ⟨8, b, c, o, n, s⟩ = true) (hsz : s.size ≤ 9223372036854775807) (hb0 : 0 ≤ b) (hn0 : 0 ≤ n ∧ n ≤ 18446744073709551615) (hf : S.faults < 9223372036854775807) (hla : S.last < 9223372036854775807) (hl : S.locked = false) :
    Calls Tryz.prog 68 #[.pointer (some ⟨hb, 0, none⟩), .agg #[.int .i64 8, .int .u64 b, .int .i64 c, .int .u64 o, .int .u64 n, .string s]] w (DoPost F hb S ⟨8, b, c, o, n, s⟩ w) := by
  have hR := fun W => right_any ⟨8, b, c, o, n, s⟩ W hsz
  rw [hr] at hR
  have hact : ∀ r, S.act ⟨8, b, c, o, n, s⟩ r = (⟨1, ByteArray.empty⟩, S.lock) := by
    intro r
    unfold PHeap.act
    rw [if_neg (by rw [hr]; decide)]
    simp [hl]
  replace hR := Lib.hid hR
  clear hr
  replace hact : Hid _ := Lib.hid hact
  replace h := Lib.hid h
  replace hl := Lib.hid hl
  have B1 := Blk.alloc (Blk.alloc (Blk.new w 31 #[.int .i64 8, .int .u64 b, .int .i64 c, .int .u64 o, .int .u64 n, .string s]) (.cells #[.int .u64 0, .string ⟨#[]⟩] 52)) (.cells #[.int .u64 0, .string ⟨#[]⟩] 52)
  have B2 := Blk.alloc (Blk.new (w.alloc (.cells #[.int .i64 8, .int .u64 b, .int .i64 c, .int .u64 o, .int .u64 n, .string s] 31)) 52 #[.int .u64 0, .string ⟨#[]⟩]) (.cells #[.int .u64 0, .string ⟨#[]⟩] 52)
  have B3 := Blk.new ((w.alloc (.cells #[.int .i64 8, .int .u64 b, .int .i64 c, .int .u64 o, .int .u64 n, .string s] 31)).alloc (.cells #[.int .u64 0, .string ⟨#[]⟩] 52)) 52 #[.int .u64 0, .string ⟨#[]⟩]
  have hW0 : Below w.heap.size w (((w.alloc (.cells #[.int .i64 8, .int .u64 b, .int .i64 c, .int .u64 o, .int .u64 n, .string s] 31)).alloc (.cells #[.int .u64 0, .string ⟨#[]⟩] 52)).alloc (.cells #[.int .u64 0, .string ⟨#[]⟩] 52)) := (((Below.refl _ _).alloc (Nat.le_refl _) _).alloc (by simp) _).alloc (by simp; omega) _
  simp only [World.size_alloc] at B2 B3
  replace B1 := Lib.hid B1
  replace B2 := Lib.hid B2
  replace B3 := Lib.hid B3
  replace hW0 := Lib.hid hW0
  go_enter Tryz.func68, Tryz.ntmps68
  go_wp2_with fail
  refine (hR.out _).mono ?_; rintro e w1 ⟨rfl, hb1⟩
  have hB1 := nx hW0.out (Nat.le_refl _) hb1
  have g1 := (B1.out.below hb1 (by simp; omega))
  have g2 := (B2.out.below hb1 (by simp))
  have g3 := (B3.out.below hb1 (by simp))
  have hs := hb1.size
  simp only [World.size_alloc] at hs
  clear hb1
  replace hB1 := Lib.hid hB1
  have c10 := g1.cell 0
  have c11 := g1.cell 1
  have c12 := g1.cell 2
  have c13 := g1.cell 3
  have c14 := g1.cell 4
  have c15 := g1.cell 5
  have c20 := g2.cell 0
  have c21 := g2.cell 1
  have f20 := g2.frozen 0
  have f21 := g2.frozen 1
  have c30 := g3.cell 0
  have c31 := g3.cell 1
  have f30 := g3.frozen 0
  have f31 := g3.frozen 1
  replace g1 := Lib.hid g1
  replace g2 := Lib.hid g2
  replace g3 := Lib.hid g3
  go_wp2_with fail
  refine (lockAs_all (h.out.below hB1.out) false hl.out).mono ?_; rintro e w2 ⟨rfl, ht⟩
  clear c10 c11 c12 c13 c14 c15 c20 c21 f20 f21 c30 c31 f30 f31
  have hF0 : ∀ j, w.heap.size ≤ j → ¬ F j := fun j hj hf => by have := h.out.own j hf; omega
  have g1 := g1.out.keep (ht.2.block _ (by omega) (hF0 _ (by omega)))
  have g2 := g2.out.keep (ht.2.block _ (by omega) (hF0 _ (by omega)))
  have g3 := g3.out.keep (ht.2.block _ (by omega) (hF0 _ (by omega)))
  have hs2 := ht.2.size
  replace ht := Lib.hid ht
  have c10 := g1.cell 0
  have c11 := g1.cell 1
  have c12 := g1.cell 2
  have c13 := g1.cell 3
  have c14 := g1.cell 4
  have c15 := g1.cell 5
  have c20 := g2.cell 0
  have c21 := g2.cell 1
  have f20 := g2.frozen 0
  have f21 := g2.frozen 1
  have c30 := g3.cell 0
  have c31 := g3.cell 1
  have f30 := g3.frozen 0
  have f31 := g3.frozen 1
  clear g1 g2 g3
  go_wp2_with fail
  refine bodyPost_ret (v := .agg #[.int .u64 1, .string ByteArray.empty]) (by simp [results, Tryz.results68, go_sem, c20, c21]; try rfl) rfl ⟨0, ?_, ?_⟩
  · rw [hact.out]; rfl
  · rw [hact.out]
    refine do_end h.out.own hB1.out ht.out ?_
    repeat first | exact Chg.refl _ _ | refine Chg.drew ?_ | refine Chg.alloc ?_ _ | refine Chg.setCell ?_ (.inl ⟨by (first | omega | (simp; done) | (simp; omega)), by (first | omega | (simp; omega))⟩) _
set_option maxRecDepth 100000 in
set_option maxHeartbeats 1000000 in
theorem do_9 (b c o n : Int) (s : ByteArray) (hr : PAct.right ⟨9, b, c, o, n, s⟩ = true) (hsz : s.size ≤ 9223372036854775807) (hb0 : 0 ≤ b) (hn0 : 0 ≤ n ∧ n ≤ 18446744073709551615) (hf : S.faults < 9223372036854775807) (hla : S.last < 9223372036854775807) :
    Calls Tryz.prog 68 #[.pointer (some ⟨hb, 0, none⟩), .agg #[.int .i64 9, .int .u64 b, .int .i64 c, .int .u64 o, .int .u64 n, .string s]] w (DoPost F hb S ⟨9, b, c, o, n, s⟩ w) := by
  have hR := fun W => right_any ⟨9, b, c, o, n, s⟩ W hsz
  rw [hr] at hR
  have hact : ∀ r, S.act ⟨9, b, c, o, n, s⟩ r = (⟨0, ByteArray.empty⟩, S.unlock) := by
    intro r
    unfold PHeap.act
    rw [if_neg (by rw [hr]; decide)]
    simp
  replace hR := Lib.hid hR
  clear hr
  replace hact : Hid _ := Lib.hid hact
  replace h := Lib.hid h
  have B1 := Blk.alloc (Blk.alloc (Blk.new w 31 #[.int .i64 9, .int .u64 b, .int .i64 c, .int .u64 o, .int .u64 n, .string s]) (.cells #[.int .u64 0, .string ⟨#[]⟩] 52)) (.cells #[.int .u64 0, .string ⟨#[]⟩] 52)
  have B2 := Blk.alloc (Blk.new (w.alloc (.cells #[.int .i64 9, .int .u64 b, .int .i64 c, .int .u64 o, .int .u64 n, .string s] 31)) 52 #[.int .u64 0, .string ⟨#[]⟩]) (.cells #[.int .u64 0, .string ⟨#[]⟩] 52)
  have B3 := Blk.new ((w.alloc (.cells #[.int .i64 9, .int .u64 b, .int .i64 c, .int .u64 o, .int .u64 n, .string s] 31)).alloc (.cells #[.int .u64 0, .string ⟨#[]⟩] 52)) 52 #[.int .u64 0, .string ⟨#[]⟩]
  have hW0 : Below w.heap.size w (((w.alloc (.cells #[.int .i64 9, .int .u64 b, .int .i64 c, .int .u64 o, .int .u64 n, .string s] 31)).alloc (.cells #[.int .u64 0, .string ⟨#[]⟩] 52)).alloc (.cells #[.int .u64 0, .string ⟨#[]⟩] 52)) := (((Below.refl _ _).alloc (Nat.le_refl _) _).alloc (by simp) _).alloc (by simp; omega) _
  simp only [World.size_alloc] at B2 B3
  replace B1 := Lib.hid B1
  replace B2 := Lib.hid B2
  replace B3 := Lib.hid B3
  replace hW0 := Lib.hid hW0
  go_enter Tryz.func68, Tryz.ntmps68
  go_wp2_with fail
  refine (hR.out _).mono ?_; rintro e w1 ⟨rfl, hb1⟩
  have hB1 := nx hW0.out (Nat.le_refl _) hb1
  have g1 := (B1.out.below hb1 (by simp; omega))
  have g2 := (B2.out.below hb1 (by simp))
  have g3 := (B3.out.below hb1 (by simp))
  have hs := hb1.size
  simp only [World.size_alloc] at hs
  clear hb1
  replace hB1 := Lib.hid hB1
  have c10 := g1.cell 0
  have c11 := g1.cell 1
  have c12 := g1.cell 2
  have c13 := g1.cell 3
  have c14 := g1.cell 4
  have c15 := g1.cell 5
  have c20 := g2.cell 0
  have c21 := g2.cell 1
  have f20 := g2.frozen 0
  have f21 := g2.frozen 1
  have c30 := g3.cell 0
  have c31 := g3.cell 1
  have f30 := g3.frozen 0
  have f31 := g3.frozen 1
  replace g1 := Lib.hid g1
  replace g2 := Lib.hid g2
  replace g3 := Lib.hid g3
  go_wp2_with fail
  refine (unlock_all (h.out.below hB1.out) hf).mono ?_; rintro e w2 ⟨rfl, ht⟩
  clear c10 c11 c12 c13 c14 c15 c20 c21 f20 f21 c30 c31 f30 f31
  have hF0 : ∀ j, w.heap.size ≤ j → ¬ F j := fun j hj hf => by have := h.out.own j hf; omega
  have g1 := g1.out.keep (ht.2.block _ (by omega) (hF0 _ (by omega)))
  have g2 := g2.out.keep (ht.2.block _ (by omega) (hF0 _ (by omega)))
  have g3 := g3.out.keep (ht.2.block _ (by omega) (hF0 _ (by omega)))
  have hs2 := ht.2.size
  replace ht := Lib.hid ht
  have c10 := g1.cell 0
  have c11 := g1.cell 1
  have c12 := g1.cell 2
  have c13 := g1.cell 3
  have c14 := g1.cell 4
  have c15 := g1.cell 5
  have c20 := g2.cell 0
  have c21 := g2.cell 1
  have f20 := g2.frozen 0
  have f21 := g2.frozen 1
  have c30 := g3.cell 0
  have c31 := g3.cell 1
  have f30 := g3.frozen 0
  have f31 := g3.frozen 1
  clear g1 g2 g3
  go_wp2_with fail
  refine bodyPost_ret (v := .agg #[.int .u64 0, .string ByteArray.empty]) (by simp [results, Tryz.results68, go_sem, c20, c21]; try rfl) rfl ⟨0, ?_, ?_⟩
  · rw [hact.out]; rfl
  · rw [hact.out]
    refine do_end h.out.own hB1.out ht.out ?_
    repeat first | exact Chg.refl _ _ | refine Chg.drew ?_ | refine Chg.alloc ?_ _ | refine Chg.setCell ?_ (.inl ⟨by (first | omega | (simp; done) | (simp; omega)), by (first | omega | (simp; omega))⟩) _
set_option maxRecDepth 100000 in
set_option maxHeartbeats 1000000 in
theorem do_0 (b c o n : Int) (s : ByteArray) (hr : PAct.right ⟨0, b, c, o, n, s⟩ = true) (hsz : s.size ≤ 9223372036854775807) (hb0 : 0 ≤ b) (hn0 : 0 ≤ n ∧ n ≤ 18446744073709551615) (hf : S.faults < 9223372036854775807) (hla : S.last < 9223372036854775807) :
    Calls Tryz.prog 68 #[.pointer (some ⟨hb, 0, none⟩), .agg #[.int .i64 0, .int .u64 b, .int .i64 c, .int .u64 o, .int .u64 n, .string s]] w (DoPost F hb S ⟨0, b, c, o, n, s⟩ w) := by
  have hR := fun W => right_any ⟨0, b, c, o, n, s⟩ W hsz
  rw [hr] at hR
  have hact : ∀ r, S.act ⟨0, b, c, o, n, s⟩ r = (⟨0, ByteArray.empty⟩, S) := by
    intro r
    unfold PHeap.act
    rw [if_neg (by rw [hr]; decide)]
    simp
  replace hR := Lib.hid hR
  clear hr
  replace hact : Hid _ := Lib.hid hact
  replace h := Lib.hid h
  have B1 := Blk.alloc (Blk.alloc (Blk.new w 31 #[.int .i64 0, .int .u64 b, .int .i64 c, .int .u64 o, .int .u64 n, .string s]) (.cells #[.int .u64 0, .string ⟨#[]⟩] 52)) (.cells #[.int .u64 0, .string ⟨#[]⟩] 52)
  have B2 := Blk.alloc (Blk.new (w.alloc (.cells #[.int .i64 0, .int .u64 b, .int .i64 c, .int .u64 o, .int .u64 n, .string s] 31)) 52 #[.int .u64 0, .string ⟨#[]⟩]) (.cells #[.int .u64 0, .string ⟨#[]⟩] 52)
  have B3 := Blk.new ((w.alloc (.cells #[.int .i64 0, .int .u64 b, .int .i64 c, .int .u64 o, .int .u64 n, .string s] 31)).alloc (.cells #[.int .u64 0, .string ⟨#[]⟩] 52)) 52 #[.int .u64 0, .string ⟨#[]⟩]
  have hW0 : Below w.heap.size w (((w.alloc (.cells #[.int .i64 0, .int .u64 b, .int .i64 c, .int .u64 o, .int .u64 n, .string s] 31)).alloc (.cells #[.int .u64 0, .string ⟨#[]⟩] 52)).alloc (.cells #[.int .u64 0, .string ⟨#[]⟩] 52)) := (((Below.refl _ _).alloc (Nat.le_refl _) _).alloc (by simp) _).alloc (by simp; omega) _
  simp only [World.size_alloc] at B2 B3
  replace B1 := Lib.hid B1
  replace B2 := Lib.hid B2
  replace B3 := Lib.hid B3
  replace hW0 := Lib.hid hW0
  go_enter Tryz.func68, Tryz.ntmps68
  go_wp2_with fail
  refine (hR.out _).mono ?_; rintro e w1 ⟨rfl, hb1⟩
  have hB1 := nx hW0.out (Nat.le_refl _) hb1
  have g1 := (B1.out.below hb1 (by simp; omega))
  have g2 := (B2.out.below hb1 (by simp))
  have g3 := (B3.out.below hb1 (by simp))
  have hs := hb1.size
  simp only [World.size_alloc] at hs
  clear hb1
  replace hB1 := Lib.hid hB1
  have c10 := g1.cell 0
  have c11 := g1.cell 1
  have c12 := g1.cell 2
  have c13 := g1.cell 3
  have c14 := g1.cell 4
  have c15 := g1.cell 5
  have c20 := g2.cell 0
  have c21 := g2.cell 1
  have f20 := g2.frozen 0
  have f21 := g2.frozen 1
  have c30 := g3.cell 0
  have c31 := g3.cell 1
  have f30 := g3.frozen 0
  have f31 := g3.frozen 1
  replace g1 := Lib.hid g1
  replace g2 := Lib.hid g2
  replace g3 := Lib.hid g3
  go_wp2_with fail
  refine bodyPost_ret (v := .agg #[.int .u64 0, .string ByteArray.empty]) (by simp [results, Tryz.results68, go_sem, c20, c21]; try rfl) rfl ⟨0, ?_, ?_⟩
  · rw [hact.out]; rfl
  · rw [hact.out]
    refine do_end h.out.own hB1.out (Turned.still (h.out.below hB1.out) (Below.refl _ _)) ?_
    repeat first | exact Chg.refl _ _ | refine Chg.drew ?_ | refine Chg.alloc ?_ _ | refine Chg.setCell ?_ (.inl ⟨by (first | omega | (simp; done) | (simp; omega)), by (first | omega | (simp; omega))⟩) _
theorem do_any (x : PAct) (hx : x.Ok) (hf : S.faults < 9223372036854775807) (hla : S.last < 9223372036854775807) :
    Calls Tryz.prog 68 #[.pointer (some ⟨hb, 0, none⟩), x.val] w (DoPost F hb S x w) := by
  by_cases hr : x.right = true
  · obtain ⟨k, b, c, o, n, s⟩ := x
    have hk : k = 0 ∨ k = 1 ∨ k = 2 ∨ k = 3 ∨ k = 4 ∨ k = 5 ∨ k = 6 ∨ k = 7 ∨ k = 8 ∨ k = 9 ∨ k = 10 := by
      have h1 := hr
      unfold PAct.right PAct.fit at h1
      simp only [Bool.and_eq_true] at h1
      have h2 := h1.2
      by_cases h3 : k = 0 ∨ k = 1 ∨ k = 2 ∨ k = 3 ∨ k = 4 ∨ k = 5 ∨ k = 6 ∨ k = 7 ∨ k = 8 ∨ k = 9 ∨ k = 10
      · exact h3
      · rw [if_neg (by omega), if_neg (by omega), if_neg (by omega), if_neg (by omega), if_neg (by omega), if_neg (by omega)] at h2
        cases h2
    obtain ⟨h1, h2, h3, h4, h5, h6⟩ := hx
    rcases hk with rfl | rfl | rfl | rfl | rfl | rfl | rfl | rfl | rfl | rfl | rfl
    · exact do_0 h b c o n s hr h6 h2.1 h5 hf hla
    · exact do_1 h b c o n s hr h6 h2.1 h5 hf hla
    · exact do_2 h b c o n s hr h6 h2.1 h5 hf hla
    · exact do_3 h b c o n s hr h6 h2.1 h5 hf hla
    · exact do_4 h b c o n s hr h6 h2.1 h5 hf hla
    · exact do_5 h b c o n s hr h6 h2.1 h5 hf hla
    · exact do_6 h b c o n s hr h6 h2.1 h5 hf hla
    · exact do_7 h b c o n s hr h6 h2.1 h5 hf hla
    · by_cases hl : S.locked = true
      · exact do_8a h b c o n s hr h6 h2.1 h5 hf hla hl
      · exact do_8b h b c o n s hr h6 h2.1 h5 hf hla (by simpa using hl)
    · exact do_9 h b c o n s hr h6 h2.1 h5 hf hla
    · exact do_10 h b c o n s hr h6 h2.1 h5 hf hla
  · exact do_no h x hx (by simpa using hr)
end
end Go.Proofs.YtmlnhjfdhjachaaGreat

/-
  act.Ready on a heap. No condition.
-/
namespace Go.Proofs.YtmlnhjfdhjachaaGreat
set_option linter.unusedVariables false
open Go.ChangeShapes Go.WideShapes Go.ChangeAt Go.RowKit
open Go.ChangeMaps (setBlock)

section
variable {w : World} {hb : Nat} {S : PHeap} {F : Nat → Prop} (h : HeapIn w hb S F)
include h
set_option maxRecDepth 100000 in
theorem ready_any (x : PAct) (hx : x.Ok) (hf : S.faults < 9223372036854775807) :
    Calls Tryz.prog 67 #[.pointer (some ⟨hb, 0, none⟩), x.val] w fun e w' => e = .returned (.bool (S.ready x)) ∧ Turned F hb S w w' := by
  have hR := fun W => right_any x W hx.text
  obtain ⟨k, b, c, o, n, s⟩ := x
  have hb0 : 0 ≤ b := hx.block.1
  have hv : PAct.val ⟨k, b, c, o, n, s⟩ = .agg #[.int .i64 k, .int .u64 b, .int .i64 c, .int .u64 o, .int .u64 n, .string s] := rfl
  rw [hv] at hR ⊢
  clear hv
  have hW0 : Below w.heap.size w (w.alloc (.cells #[.int .i64 k, .int .u64 b, .int .i64 c, .int .u64 o, .int .u64 n, .string s] 31)) := (Below.refl _ _).alloc (Nat.le_refl _) _
  have B1 := Blk.new w 31 #[.int .i64 k, .int .u64 b, .int .i64 c, .int .u64 o, .int .u64 n, .string s]
  by_cases hr : PAct.right ⟨k, b, c, o, n, s⟩ = true
  · rw [hr] at hR
    have hc0 : 0 ≤ c := by
      unfold PAct.right at hr
      simp only [Bool.and_eq_true, decide_eq_true_eq] at hr
      exact hr.1.1
    by_cases h8 : k = 8
    · subst h8
      have hS : S.ready ⟨8, b, c, o, n, s⟩ = !S.locked := by unfold PHeap.ready; rw [if_neg (by rw [hr]; decide), if_pos rfl]
      rw [hS]
      have hL := fun (w1 : World) (hb1 : Below w.heap.size w w1) => locked_any (h.below hb1)
      replace hR := Lib.hid hR
      replace hL := Lib.hid hL
      replace hW0 := Lib.hid hW0
      replace B1 := Lib.hid B1
      clear hr hS hx
      cases hl : S.locked
      all_goals
        rw [hl] at hL
        replace hl := Lib.hid hl
        go_enter Tryz.func67, Tryz.ntmps67
        go_wp2_with fail
        refine (hR.out _).mono ?_; rintro e w1 ⟨rfl, hb1⟩
        have hB1 := nx hW0.out (Nat.le_refl _) hb1
        have c0 := (B1.out.below hb1 (by simp)).cell 0
        go_wp2_with fail
        refine (hL.out _ hB1).mono ?_; rintro e w2 ⟨rfl, rfl⟩
        go_wp2_with fail
        go_ret
        exact ⟨rfl, Turned.still h hB1⟩
    · by_cases h10 : k = 10
      · subst h10
        have hS : S.ready ⟨10, b, c, o, n, s⟩ = (decide (c < S.size b) && (S.word b c != 0)) := by unfold PHeap.ready; rw [if_neg (by rw [hr]; decide), if_neg (by show ¬ (10 : Int) = 8; decide), if_pos rfl]
        rw [hS]
        have hZ := fun (w1 : World) (hb1 : Below w.heap.size w w1) => size_any (h.below hb1) b
        have hLd := fun (w1 : World) (hb1 : Below w.heap.size w w1) => load_all (h.below hb1) b c hb0 hf
        have hsz : (((S.find b).map fun x => (x.cells.length : Int)).getD 0) = S.size b := rfl
        rw [hsz] at hZ
        have hload : c < S.size b → S.load b c = (S.word b c, S) ∧ S.code b c = 0 := by
          intro hlt
          have hcd : S.code b c = 0 := by
            unfold PHeap.size at hlt
            cases hfx : S.find b with
            | none => rw [hfx] at hlt; simp at hlt; omega
            | some y => rw [hfx] at hlt; exact code_hit hfx ⟨hc0, by simpa using hlt⟩
          exact ⟨by unfold PHeap.load; rw [if_pos hcd], hcd⟩
        have hz63 : 0 ≤ S.size b ∧ S.size b ≤ 256 := by
          unfold PHeap.size
          cases hfx : S.find b with
          | none => simp
          | some y =>
            have := (h.span y (find_mem hfx).1).2.2.1
            simp
            omega
        clear hS hx hr hsz
        replace hR := Lib.hid hR
        replace hZ := Lib.hid hZ
        replace hW0 := Lib.hid hW0
        replace B1 := Lib.hid B1
        generalize hzz : S.size b = z at *
        replace hzz := Lib.hid hzz
        by_cases hlt : c < z
        · obtain ⟨e1, e2⟩ := hload hlt
          rw [e1, e2] at hLd
          have d1 : decide (z ≤ c) = false := decide_eq_false (by omega)
          have d2 : decide (c < z) = true := decide_eq_true hlt
          rw [d2, Bool.true_and]
          clear hload e1 e2
          generalize S.word b c = v at *
          replace hLd := Lib.hid hLd
          replace h := Lib.hid h
          go_enter Tryz.func67, Tryz.ntmps67
          go_wp2_with fail
          refine (hR.out _).mono ?_; rintro e w1 ⟨rfl, hb1⟩
          have hB1 := nx hW0.out (Nat.le_refl _) hb1
          have g1 := B1.out.below hb1 (by simp)
          have c0 := g1.cell 0
          have c1 := g1.cell 1
          have c2 := g1.cell 2
          replace hB1 := Lib.hid hB1
          go_wp2_with fail
          go_quiet ((go_at_call 98; exact Calls.quiet_of_same ((hZ.out _ (by first | exact hB1.out | exact hB1.out.drew | exact below_drewN hB1.out _)).mono fun _ _ hp => ⟨hp.1, hp.2.symm⟩)))
          go_wp2_with fail
          refine (hLd.out _ (by first | exact hB1.out | exact hB1.out.drew | exact below_drewN hB1.out _)).mono ?_; rintro e w2 ⟨rfl, ht⟩
          go_wp2_with fail
          go_ret
          exact ⟨rfl, Turned.after h.out.own (by first | exact hB1.out | exact hB1.out.drew | exact below_drewN hB1.out _) ht⟩
        · have d1 : decide (z ≤ c) = true := decide_eq_true (by omega)
          have d2 : decide (c < z) = false := decide_eq_false (by omega)
          rw [d2, Bool.false_and]
          clear hload hLd
          replace h := Lib.hid h
          go_enter Tryz.func67, Tryz.ntmps67
          go_wp2_with fail
          refine (hR.out _).mono ?_; rintro e w1 ⟨rfl, hb1⟩
          have hB1 := nx hW0.out (Nat.le_refl _) hb1
          have g1 := B1.out.below hb1 (by simp)
          have c0 := g1.cell 0
          have c1 := g1.cell 1
          have c2 := g1.cell 2
          replace hB1 := Lib.hid hB1
          go_wp2_with fail
          go_quiet ((go_at_call 98; exact Calls.quiet_of_same ((hZ.out _ (by first | exact hB1.out | exact hB1.out.drew | exact below_drewN hB1.out _)).mono fun _ _ hp => ⟨hp.1, hp.2.symm⟩)))
          go_wp2_with fail
          go_ret
          exact ⟨rfl, Turned.still h.out (by first | exact hB1.out | exact hB1.out.drew | exact below_drewN hB1.out _)⟩
      · have hS : S.ready ⟨k, b, c, o, n, s⟩ = true := by unfold PHeap.ready; rw [if_neg (by rw [hr]; decide), if_neg h8, if_neg h10]
        rw [hS]
        have h8' : (k == 8) = false := by simpa using h8
        have h10' : (k == 10) = false := by simpa using h10
        clear hS hx hr h8 h10
        replace hR := Lib.hid hR
        replace h := Lib.hid h
        replace hW0 := Lib.hid hW0
        replace B1 := Lib.hid B1
        go_enter Tryz.func67, Tryz.ntmps67
        go_wp2_with fail
        refine (hR.out _).mono ?_; rintro e w1 ⟨rfl, hb1⟩
        have hB1 := nx hW0.out (Nat.le_refl _) hb1
        have c0 := (B1.out.below hb1 (by simp)).cell 0
        replace hB1 := Lib.hid hB1
        go_wp2_with fail
        go_ret
        exact ⟨rfl, Turned.still h.out hB1.out⟩
  · have hr' : PAct.right ⟨k, b, c, o, n, s⟩ = false := by simpa using hr
    have hS : S.ready ⟨k, b, c, o, n, s⟩ = true := by unfold PHeap.ready; rw [if_pos hr']
    rw [hS]
    rw [hr'] at hR
    clear hS hx hr hr'
    replace hR := Lib.hid hR
    replace h := Lib.hid h
    replace hW0 := Lib.hid hW0
    replace B1 := Lib.hid B1
    go_enter Tryz.func67, Tryz.ntmps67
    go_wp2_with fail
    refine (hR.out _).mono ?_; rintro e w1 ⟨rfl, hb1⟩
    have hB1 := nx hW0.out (Nat.le_refl _) hb1
    replace hB1 := Lib.hid hB1
    go_wp2_with fail
    go_ret
    exact ⟨rfl, Turned.still h.out hB1.out⟩
end
end Go.Proofs.YtmlnhjfdhjachaaGreat

/-
  Routines, and who goes next: drive.Next for any routine that is told by its acts and what it takes. No condition.
-/
namespace Go.Proofs.YtmlnhjfdhjachaaGreat
set_option linter.unusedVariables false
open Go.ChangeShapes Go.WideShapes Go.ChangeAt Go.RowKit
open Go.ChangeMaps (setBlock)

def PGot.Ok (g : PGot) : Prop := 0 ≤ g.word ∧ g.word ≤ 18446744073709551615
theorem nth_ok {w : World} {hb : Nat} {S : PHeap} {F : Nat → Prop} (h : HeapIn w hb S F) (b i : Int) : 0 ≤ S.word b i ∧ S.word b i ≤ 18446744073709551615 := by
  unfold PHeap.word
  cases hx : S.find b with
  | none => simp
  | some x =>
    simp only [PBlk.nth, List.getD_eq_getElem?_getD]
    cases hg : x.cells[i.toNat]? with
    | none => simp
    | some z => exact (h.span x (find_mem hx).1).2.2.2 z (List.mem_of_getElem? hg)
theorem act_ok {w : World} {hb : Nat} {S : PHeap} {F : Nat → Prop} (h : HeapIn w hb S F) (hla : S.last < 9223372036854775807) (x : PAct) (r : Nat) : (S.act x r).1.Ok := by
  have hw := nth_ok h x.block x.cell
  have hl0 := h.last0
  have h0 : PGot.Ok ⟨0, ByteArray.empty⟩ := ⟨Int.le_refl _, by decide⟩
  unfold PHeap.act
  split
  · exact h0
  · split
    · unfold PHeap.load; split
      · exact hw
      · exact h0
    · split
      · exact h0
      · split
        · unfold PHeap.swap; split
          · exact hw
          · exact h0
        · split
          · unfold PHeap.bump; split
            · exact hw
            · exact h0
          · split
            · unfold PHeap.make; split
              · exact ⟨by show 0 ≤ S.last + 1; omega, by show S.last + 1 ≤ _; omega⟩
              · exact h0
            · split
              · exact ⟨Int.le_refl _, by show (0 : Int) ≤ 18446744073709551615; decide⟩
              · split
                · exact h0
                · split
                  · show 0 ≤ (if S.locked then (0 : Int) else 1) ∧ (if S.locked then (0 : Int) else 1) ≤ 18446744073709551615
                    split <;> omega
                  · split
                    · exact h0
                    · exact h0
/-- A kind of routines: how one lies in memory, what it asks and what it takes. -/
structure Rout (σ : Type) where
  T : TypeId
  fAct : Nat
  fTake : Nat
  mAct : ∀ (a : Addr) (w : World), (Go.method 353 T (.pointer (some a)) "Act").run Tryz.prog w = .ok (fAct, .pointer (some a)) w
  mTake : ∀ (a : Addr) (w : World), (Go.method 353 T (.pointer (some a)) "Take").run Tryz.prog w = .ok (fTake, .pointer (some a)) w
  nAct : ∀ (a : Addr) (w : World), (nilAhead 353 T (.pointer (some a)) "Act").run Tryz.prog w = .ok (some false) w
  nTake : ∀ (a : Addr) (w : World), (nilAhead 353 T (.pointer (some a)) "Take").run Tryz.prog w = .ok (some false) w
  eAct : ∀ args w, (callFunc fAct args).run Tryz.prog w = .ok (.enter fAct args) w
  eTake : ∀ args w, (callFunc fTake args).run Tryz.prog w = .ok (.enter fTake args) w
  R : World → (Nat → Prop) → Nat → σ → Prop
  own : ∀ {w G b s}, R w G b s → In G w
  hG : ∀ {w G b s}, R w G b s → G b
  keep : ∀ {w w' G b s}, R w G b s → w.heap.size ≤ w'.heap.size → (∀ k, G k → w'.heap[k]? = w.heap[k]?) → R w' G b s
  act : σ → PAct × Bool
  take : σ → PGot → σ
  okA : ∀ {w G b s}, R w G b s → (act s).1.Ok
  cAct : ∀ {w G b s}, R w G b s → Calls Tryz.prog fAct #[.pointer (some ⟨b, 0, none⟩)] w fun e w' => e = .returned (.tuple #[(act s).1.val, .bool (act s).2]) ∧ Below w.heap.size w w'
  cTake : ∀ {w G b s} (g : PGot), R w G b s → g.Ok → (act s).2 = true → Calls Tryz.prog fTake #[.pointer (some ⟨b, 0, none⟩), g.val] w fun e w' => e = .returned (.tuple #[]) ∧ R w' (nw G w w') b (take s g) ∧ Chg G w w'

theorem gen_world {α : World → Prop} (Pw : World → Prop) {W : World} (h : Pw W) (k : ∀ W', Pw W' → α W') : α W := k W h
section
variable {σ : Type} (Rt : Rout σ)
theorem Rout.below {w w' : World} {G : Nat → Prop} {b : Nat} {s : σ} (h : Rt.R w G b s) (hb : Below w.heap.size w w') : Rt.R w' G b s := Rt.keep h hb.size fun k hk => hb.block k (Rt.own h k hk)
theorem next1_any {w : World} {G : Nat → Prop} {b : Nat} {s : σ} (h : Rt.R w G b s) :
    Calls Tryz.prog 66 #[.iface Rt.T (.pointer (some ⟨b, 0, none⟩))] w fun e w' => e = .returned (.tuple #[(Rt.act s).1.val, .bool (Rt.act s).2]) ∧ Below w.heap.size w w' := by
  have hm := Rt.mAct
  have hn := Rt.nAct
  have he := Rt.eAct
  have hz : Below w.heap.size w (w.alloc (.cells #[.int .i64 0, .int .u64 0, .int .i64 0, .int .u64 0, .int .u64 0, .string ⟨#[]⟩] 31)) := (Below.refl _ _).alloc (Nat.le_refl _) _
  have hC := Rt.cAct (Rt.below h hz)
  rcases hx : (Rt.act s).1 with ⟨k, bb, c, o, n, t⟩
  have hv : PAct.val ⟨k, bb, c, o, n, t⟩ = .agg #[.int .i64 k, .int .u64 bb, .int .i64 c, .int .u64 o, .int .u64 n, .string t] := rfl
  rw [hx, hv] at hC
  rw [hv]
  clear hv hx
  generalize (Rt.act s).2 = mo at *
  have B1 := Blk.new w 31 #[.int .i64 0, .int .u64 0, .int .i64 0, .int .u64 0, .int .u64 0, .string ⟨#[]⟩]
  replace hC := Lib.hid hC
  replace hz := Lib.hid hz
  replace B1 := Lib.hid B1
  replace h := Lib.hid h
  go_enter Tryz.func66, Tryz.ntmps66
  go_wp2_with fail
  refine (hC.out).mono ?_; rintro e w1 ⟨rfl, hb1⟩
  have g1 := B1.out.below hb1 (by simp)
  have hB1 := nx hz.out (Nat.le_refl _) hb1
  have c0 := g1.cell 0
  have c1 := g1.cell 1
  have c2 := g1.cell 2
  have c3 := g1.cell 3
  have c4 := g1.cell 4
  have c5 := g1.cell 5
  have f0 := g1.frozen 0
  have f1 := g1.frozen 1
  have f2 := g1.frozen 2
  have f3 := g1.frozen 3
  have f4 := g1.frozen 4
  have f5 := g1.frozen 5
  clear hb1
  replace g1 := Lib.hid g1
  replace hB1 := Lib.hid hB1
  go_wp2_with fail
  clear c0 c1 c2 c3 c4 c5 f0 f1 f2 f3 f4 f5
  refine gen_world (α := fun W' => bodyPost _ _ _ _ _ W') (fun W' => Blk W' w.heap.size 31 #[.int .i64 k, .int .u64 bb, .int .i64 c, .int .u64 o, .int .u64 n, .string t] ∧ Below w.heap.size w W') ⟨Blk.eq_cs ((((((g1.out.set_ 0 _).set_ 1 _).set_ 2 _).set_ 3 _).set_ 4 _).set_ 5 _) rfl, ?_⟩ ?_
  · repeat (refine Below.setCell ?_ (by exact Nat.le_refl _) _)
    exact hB1.out
  rintro W' ⟨g2, hB2⟩
  have c0 := g2.cell 0
  have c1 := g2.cell 1
  have c2 := g2.cell 2
  have c3 := g2.cell 3
  have c4 := g2.cell 4
  have c5 := g2.cell 5
  refine bodyPost_ret (v := .tuple #[.agg #[.int .i64 k, .int .u64 bb, .int .i64 c, .int .u64 o, .int .u64 n, .string t], .bool mo]) (by simp [results, Tryz.results66, go_sem, c0, c1, c2, c3, c4, c5]) rfl ⟨rfl, hB2⟩
/-- What a step is, as a value. -/
def stepV (who : Int) (x : PAct) (g : PGot) : Value := .agg #[.int .i64 who, .int .i64 x.kind, .int .u64 x.block, .int .i64 x.cell, .int .u64 x.old, .int .u64 x.new, .string x.text, .int .u64 g.word, .string g.text]
def noAct : PAct := ⟨0, 0, 0, 0, 0, ByteArray.empty⟩
def noGot : PGot := ⟨0, ByteArray.empty⟩
/-- May a routine go on? -/
def Rout.can (S : PHeap) (s : σ) : Bool := (Rt.act s).2 && S.ready (Rt.act s).1
/-- What a step leaves: the heap, the routine; apart. -/
structure Went (F G : Nat → Prop) (hb b : Nat) (S : PHeap) (s : σ) (w w' : World) : Prop where
  ex : ∃ F' G', HeapIn w' hb S F' ∧ Rt.R w' G' b s ∧ Off F' G' ∧ ∀ k, F' k ∨ G' k → (F k ∨ G k) ∨ w.heap.size ≤ k
  chg : Chg (fun k => F k ∨ G k) w w'
end
end Go.Proofs.YtmlnhjfdhjachaaGreat
