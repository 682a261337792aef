/-
  What an act does to a heap: the heap's methods, each in one contract; acts done; which are ready. No condition.
-/
import Derived.Test.YtpldnbdcpihjcaaAct
namespace Go.Proofs.Ytpldnbdcpihjcaa
set_option linter.unusedVariables false
open Go.ChangeShapes Go.WideShapes Go.ChangeAt Go.RowKit
open Go.ChangeMaps (setBlock)

def PHeap.word (S : PHeap) (b i : Int) : Int := match S.find b with | some x => x.nth i.toNat | none => 0
def PHeap.load (S : PHeap) (b i : Int) : Int × PHeap := if S.code b i = 0 then (S.word b i, S) else (0, S.fault)
def PHeap.store (S : PHeap) (b i v : Int) : PHeap := if S.code b i = 0 then S.set b i.toNat v else S.fault
def PHeap.bump (S : PHeap) (b i v : Int) : Int × PHeap := if S.code b i = 0 then (S.word b i, S.set b i.toNat (IntKind.u64.wrap (S.word b i + v))) else (0, S.fault)
def PHeap.swap (S : PHeap) (b i old v : Int) : Int × PHeap := if S.code b i = 0 then (S.word b i, if S.word b i = old then S.set b i.toNat v else S) else (0, S.fault)
def PHeap.make (S : PHeap) (n : Int) (t : ByteArray) (r : Nat) : Int × PHeap :=
  if 0 ≤ n ∧ n ≤ 256 then (S.last + 1, { S with blocks := S.blocks ++ [⟨S.last + 1, r, List.replicate n.toNat 0, t⟩], last := S.last + 1 }) else (0, S)
def PHeap.words (S : PHeap) (b : Int) : ByteArray × PHeap := match S.find b with | some x => (x.text, S) | none => (ByteArray.empty, S.fault)
def PHeap.drop (S : PHeap) (b : Int) : PHeap := match S.find b with | some _ => { S with blocks := S.blocks.filter fun y => y.key != b } | none => S.fault
def PHeap.lock (S : PHeap) : PHeap := { S with locked := true }
def PHeap.unlock (S : PHeap) : PHeap := if S.locked then { S with locked := false } else S.fault
def PHeap.size (S : PHeap) (b : Int) : Int := ((S.find b).map fun x => (x.cells.length : Int)).getD 0

structure PGot where
  word : Int
  text : ByteArray
def PGot.val (g : PGot) : Value := .agg #[.int .u64 g.word, .string g.text]
/-- An act's answer, and the heap behind it. -/
def PHeap.act (S : PHeap) (x : PAct) (r : Nat) : PGot × PHeap :=
  if x.right = false then (⟨0, ByteArray.empty⟩, S)
  else if x.kind = 1 ∨ x.kind = 10 then (⟨(S.load x.block x.cell).1, ByteArray.empty⟩, (S.load x.block x.cell).2)
  else if x.kind = 2 then (⟨0, ByteArray.empty⟩, S.store x.block x.cell x.new)
  else if x.kind = 3 then (⟨(S.swap x.block x.cell x.old x.new).1, ByteArray.empty⟩, (S.swap x.block x.cell x.old x.new).2)
  else if x.kind = 4 then (⟨(S.bump x.block x.cell x.new).1, ByteArray.empty⟩, (S.bump x.block x.cell x.new).2)
  else if x.kind = 5 then (⟨(S.make x.cell x.text r).1, ByteArray.empty⟩, (S.make x.cell x.text r).2)
  else if x.kind = 6 then (⟨0, (S.words x.block).1⟩, (S.words x.block).2)
  else if x.kind = 7 then (⟨0, ByteArray.empty⟩, S.drop x.block)
  else if x.kind = 8 then (⟨if S.locked then 0 else 1, ByteArray.empty⟩, S.lock)
  else if x.kind = 9 then (⟨0, ByteArray.empty⟩, S.unlock)
  else (⟨0, ByteArray.empty⟩, S)
def PHeap.ready (S : PHeap) (x : PAct) : Bool :=
  if x.right = false then true else if x.kind = 8 then !S.locked else if x.kind = 10 then decide (x.cell < S.size x.block) && (S.word x.block x.cell != 0) else true

theorem code_zero {S : PHeap} {b i : Int} (h : S.code b i = 0) : ∃ x, S.find b = some x ∧ 0 ≤ i ∧ i < x.cells.length := by
  unfold PHeap.code at h
  cases hx : S.find b with
  | none =>
    have := miss_le S b
    rw [hx] at h
    simp only at h
    omega
  | some x =>
    rw [hx] at h
    simp only at h
    split at h
    · rename_i hi
      exact ⟨x, rfl, hi⟩
    · omega
theorem word_eq {S : PHeap} {b i : Int} {x : PBlk} (hx : S.find b = some x) : S.word b i = x.nth i.toNat := by unfold PHeap.word; rw [hx]

section
variable {w : World} {hb : Nat} {S : PHeap} {F : Nat → Prop} (h : HeapIn w hb S F)
include h
theorem load_all (b i : Int) (hb0 : 0 ≤ b) (hf : S.faults < 9223372036854775807) :
    Calls Try.prog 39 #[.pointer (some ⟨hb, 0, none⟩), .int .u64 b, .int .i64 i] w fun e w' => e = .returned (.tuple #[.int .u64 (S.load b i).1, .int .i64 (S.code b i)]) ∧ Turned F hb (S.load b i).2 w w' := by
  unfold PHeap.load
  by_cases hc : S.code b i = 0
  · obtain ⟨x, hx, h0, h1⟩ := code_zero hc
    obtain ⟨j, rfl⟩ := Int.eq_ofNat_of_zero_le h0
    rw [if_pos hc, hc, word_eq hx, Int.toNat_natCast]
    exact load_hit h hx j (by omega)
  · rw [if_neg hc]
    exact load_bad h hb0 hc hf
theorem store_all (b i v : Int) (hb0 : 0 ≤ b) (hv : 0 ≤ v ∧ v ≤ 18446744073709551615) (hf : S.faults < 9223372036854775807) :
    Calls Try.prog 23 #[.pointer (some ⟨hb, 0, none⟩), .int .u64 b, .int .i64 i, .int .u64 v] w fun e w' => e = .returned (.int .i64 (S.code b i)) ∧ Turned F hb (S.store b i v) w w' := by
  unfold PHeap.store
  by_cases hc : S.code b i = 0
  · obtain ⟨x, hx, h0, h1⟩ := code_zero hc
    obtain ⟨j, rfl⟩ := Int.eq_ofNat_of_zero_le h0
    rw [if_pos hc, hc, Int.toNat_natCast]
    exact store_hit h hx j (by omega) hv
  · rw [if_neg hc]
    exact store_bad h hb0 hc hf
theorem bump_all (b i v : Int) (hb0 : 0 ≤ b) (hv : 0 ≤ v ∧ v ≤ 18446744073709551615) (hf : S.faults < 9223372036854775807) :
    Calls Try.prog 79 #[.pointer (some ⟨hb, 0, none⟩), .int .u64 b, .int .i64 i, .int .u64 v] w fun e w' => e = .returned (.tuple #[.int .u64 (S.bump b i v).1, .int .i64 (S.code b i)]) ∧ Turned F hb (S.bump b i v).2 w w' := by
  unfold PHeap.bump
  by_cases hc : S.code b i = 0
  · obtain ⟨x, hx, h0, h1⟩ := code_zero hc
    obtain ⟨j, rfl⟩ := Int.eq_ofNat_of_zero_le h0
    rw [if_pos hc, hc, word_eq hx, Int.toNat_natCast]
    exact bump_hit h hx j (by omega) hv
  · rw [if_neg hc]
    exact bump_bad h hb0 hc hf
theorem swap_all (b i old v : Int) (hb0 : 0 ≤ b) (hv : 0 ≤ v ∧ v ≤ 18446744073709551615) (hf : S.faults < 9223372036854775807) :
    Calls Try.prog 78 #[.pointer (some ⟨hb, 0, none⟩), .int .u64 b, .int .i64 i, .int .u64 old, .int .u64 v] w fun e w' => e = .returned (.tuple #[.int .u64 (S.swap b i old v).1, .int .i64 (S.code b i)]) ∧ Turned F hb (S.swap b i old v).2 w w' := by
  unfold PHeap.swap
  by_cases hc : S.code b i = 0
  · obtain ⟨x, hx, h0, h1⟩ := code_zero hc
    obtain ⟨j, rfl⟩ := Int.eq_ofNat_of_zero_le h0
    rw [if_pos hc, hc, word_eq hx, Int.toNat_natCast]
    exact swap_hit h hx j (by omega) hv
  · rw [if_neg hc]
    exact swap_bad h hb0 hc hf
theorem make_all (n : Int) (t : ByteArray) (hl : S.last < 9223372036854775807) :
    Calls Try.prog 25 #[.pointer (some ⟨hb, 0, none⟩), .int .i64 n, .string t] w fun e w' => ∃ r, e = .returned (.int .u64 (S.make n t r).1) ∧ Turned F hb (S.make n t r).2 w w' := by
  unfold PHeap.make
  by_cases hn : 0 ≤ n ∧ n ≤ 256
  · obtain ⟨j, rfl⟩ := Int.eq_ofNat_of_zero_le hn.1
    simp only [if_pos hn, Int.toNat_natCast]
    exact (make_any h j (by omega) t hl).mono fun e w' ⟨he, r, ht⟩ => ⟨r, he, ht⟩
  · simp only [if_neg hn]
    exact (make_bad hb n (by omega) t).mono fun e w' ⟨he, hw⟩ => ⟨0, he, hw ▸ Turned.still h (Below.refl _ _)⟩
theorem words_all (b : Int) (hb0 : 0 ≤ b) (hf : S.faults < 9223372036854775807) :
    Calls Try.prog 80 #[.pointer (some ⟨hb, 0, none⟩), .int .u64 b] w fun e w' => e = .returned (.tuple #[.string (S.words b).1, .int .i64 (if (S.find b).isSome then 0 else S.miss b)]) ∧ Turned F hb (S.words b).2 w w' := by
  unfold PHeap.words
  cases hx : S.find b with
  | some x => exact (words_hit h hx).mono fun e w' ⟨he, hw⟩ => ⟨he, Turned.still h hw⟩
  | none => exact words_bad h hb0 hx hf
theorem drop_all (b : Int) (hb0 : 0 ≤ b) (hf : S.faults < 9223372036854775807) :
    Calls Try.prog 81 #[.pointer (some ⟨hb, 0, none⟩), .int .u64 b] w fun e w' => e = .returned (.int .i64 (if (S.find b).isSome then 0 else S.miss b)) ∧ Turned F hb (S.drop b) w w' := by
  unfold PHeap.drop
  cases hx : S.find b with
  | some x => exact drop_hit h hx
  | none => exact drop_bad h hb0 hx hf
theorem lock_all :
    Calls Try.prog 82 #[.pointer (some ⟨hb, 0, none⟩)] w fun e w' => e = .returned (.bool (!S.locked)) ∧ Turned F hb S.lock w w' := by
  cases hl : S.locked with
  | false => exact lock_free h hl
  | true =>
    have : S.lock = S := by unfold PHeap.lock; rw [← hl]
    rw [this]
    exact (lock_taken h hl).mono fun e w' ⟨he, hw⟩ => ⟨he, hw ▸ Turned.still h (Below.refl _ _)⟩
theorem unlock_all (hf : S.faults < 9223372036854775807) :
    Calls Try.prog 83 #[.pointer (some ⟨hb, 0, none⟩)] w fun e w' => e = .returned (.bool S.locked) ∧ Turned F hb S.unlock w w' := by
  unfold PHeap.unlock
  cases hl : S.locked with
  | false => exact unlock_free h hl hf
  | true => exact unlock_taken h hl
end
end Go.Proofs.Ytpldnbdcpihjcaa
