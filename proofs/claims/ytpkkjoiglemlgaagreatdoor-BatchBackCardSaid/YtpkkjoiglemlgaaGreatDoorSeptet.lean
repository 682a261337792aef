/-
  Package septet: Put and its like; the document's too. No condition.
-/
import Derived.Test.YtpkkjoiglemlgaaGreatDoorFail
import Derived.Laws.BytesArg
import Derived.Laws.IdiomStrings
import Derived.Laws.Concat
namespace Go.Proofs.YtpkkjoiglemlgaaGreatDoor
set_option linter.unusedVariables false
open Go.RowKit Go.Extern.Stop Go.Stop Go.Extern Go.ChangeShapes

def sputF : Nat → Nat → List UInt8
  | 0, n => [UInt8.ofNat n]
  | k + 1, n => if n < 128 then [UInt8.ofNat n] else UInt8.ofNat (128 + n % 128) :: sputF k (n / 128)
theorem sputF_any : ∀ (k k' n : Nat), n ≤ k → n ≤ k' → sputF k n = sputF k' n
  | 0, 0, _, _, _ => rfl
  | 0, k' + 1, n, h, _ => by
    obtain rfl : n = 0 := by omega
    simp [sputF]
  | k + 1, 0, n, _, h => by
    obtain rfl : n = 0 := by omega
    simp [sputF]
  | k + 1, k' + 1, n, h, h' => by
    by_cases hn : n < 128
    · simp [sputF, hn]
    · simp only [sputF, if_neg hn]
      rw [sputF_any k k' (n / 128) (by omega) (by omega)]
/-- A number's bytes. -/
def sput (n : Nat) : List UInt8 := sputF n n
theorem sput_small {n : Nat} (h : n < 128) : sput n = [UInt8.ofNat n] := by
  unfold sput
  rcases n with _ | n
  · rfl
  · simp [sputF, h]
theorem sput_big {n : Nat} (h : ¬ n < 128) : sput n = UInt8.ofNat (128 + n % 128) :: sput (n / 128) := by
  unfold sput
  rcases n with _ | n
  · omega
  · simp only [sputF, if_neg h]
    rw [sputF_any n ((n + 1) / 128) _ (by omega) (Nat.le_refl _)]
def bs (l : List UInt8) : ByteArray := ⟨l.toArray⟩
theorem bs_append (a b : List UInt8) : bs (a ++ b) = bs a ++ bs b := by
  apply ByteArray.ext
  simp [bs]
theorem size_bs (l : List UInt8) : (bs l).size = l.length := by simp [bs, ByteArray.size]
@[reducible] def strL (l : List UInt8) : Value := .string (bs l)
def u8i (b : UInt8) : Int := (b.toNat : Int)
def cellsL (l : List UInt8) : List Value := l.map fun b => .int .u8 (u8i b)
theorem cellsL_snoc (l : List UInt8) (b : UInt8) : cellsL l ++ [.int .u8 (u8i b)] = cellsL (l ++ [b]) := by simp [cellsL]
theorem length_cellsL (l : List UInt8) : (cellsL l).length = l.length := by simp [cellsL]
theorem own_below {B : Nat} {w wr w1 : World} {e : TypeId} {size n : Nat} {v : Value} {xs : List Value} (hB : B ≤ w.heap.size) (h : Below B w wr) (ho : wr.ownsRow B e size v n xs) (hg : wr.grownBy w1 v.ownBlock) : Below B w w1 :=
  ⟨hg.os.trans h.os, hg.tape.trans h.tape, hg.output.trans h.output, Nat.le_trans h.size hg.size, fun k hk => by
    by_cases hkk : k < wr.heap.size
    · refine (hg.block k hkk fun e => ?_).trans (h.block k hk)
      rcases ho.2 with ⟨rfl, _⟩ | ⟨g, cap, cur, rfl, hb, _⟩
      · simp [Value.ownBlock] at e
      · have : k = g := by simpa [Value.ownBlock] using e
        omega
    · have := h.size
      omega⟩
theorem infoU8 : (Tryz.prog.info? 5).map (fun i => (i.zero, i.size, i.bytes)) = some (some (.int .u8 0), 1, 1) := by kernel_rfl
theorem reads_new (w : World) (t : TypeId) (x : Value) : Reads (w.alloc (.cells #[x] t)) (w.heap.size + 1) 1 (some ⟨w.heap.size, 0, none⟩) 1 [x] := by
  refine ⟨rfl, fun _ => ⟨_, rfl, by show w.heap.size < w.heap.size + 1; omega, fun j u hu => ?_⟩⟩
  match j, hu with
  | 0, hu =>
    obtain rfl : x = u := by simpa using hu
    exact (Blk.new w t #[x]).cell 0
/-- A row of bytes as a text. -/
theorem own_string {w : World} {B n : Nat} {v : Value} {l : List UInt8} (ho : w.ownsRow B 5 1 v n (cellsL l)) (hn : 0 < n) :
    ∃ g cap, v = .slice (some ⟨g, 0, none⟩) n cap ∧ (convert 128 9 (.slice (some ⟨g, 0, none⟩) n cap)).run Tryz.prog w = .ok (strL l) w := by
  have hl : l.length = n := by have := ho.1; rw [length_cellsL, Nat.mul_one] at this; exact this
  subst hl
  rcases ho.2 with ⟨_, h0⟩ | ⟨g, cap, cur, rfl, _, hg, _, _, _, ht⟩
  · omega
  · refine ⟨g, cap, rfl, run_convert_bytes_back w 128 9 5 ⟨g, 0, none⟩ cap l Tryz.underlying128 Tryz.underlying5 Tryz.underlying9 fun j hj => ?_⟩
    have h1 := Blk.cell (t := 5) (show Blk w g 5 cur from hg) j
    have h2 : (cur.toList.take (l.length * 1))[j]? = (cellsL l)[j]? := by rw [ht]
    rw [List.getElem?_take, if_pos (by omega)] at h2
    have h3 : (Addr.add ⟨g, 0, none⟩ j) = ⟨g, j, none⟩ := by simp [Addr.add]; omega
    rw [h3, h1, ← Array.getElem?_toList, h2]
    simp [cellsL, u8i, hj]
/-- The byte that says: more; the byte that says: the last. -/
@[irreducible] def b8 (k : Nat) : UInt8 := UInt8.ofNat (128 + k % 128)
@[irreducible] def b7 (k : Nat) : UInt8 := UInt8.ofNat k
theorem b8_eq (k : Nat) : b8 k = UInt8.ofNat (128 + k % 128) := by unfold b8; rfl
theorem b7_eq (k : Nat) : b7 k = UInt8.ofNat k := by unfold b7; rfl
theorem or128 (k : Nat) : bits .or .u8 ((k : Int) % 256) 128 = u8i (b8 k) := by
  rw [b8_eq]
  have : ∀ m : Fin 256, bits .or .u8 ((m.val : Nat) : Int) 128 = u8i (UInt8.ofNat (128 + m.val % 128)) := by decide +kernel
  have h := this ⟨k % 256, Nat.mod_lt _ (by decide)⟩
  simp only at h
  have e1 : ((k % 256 : Nat) : Int) = (k : Int) % 256 := by omega
  rw [e1] at h
  rw [h]
  congr 3
  omega
theorem u8_small {k : Nat} (h : k < 128) : (k : Int) = u8i (b7 k) := by
  rw [b7_eq]
  unfold u8i
  have : (UInt8.ofNat k).toNat = k := by simp; omega
  rw [this]
theorem pow_bound {k : Nat} {j : Nat} (hk : ¬ k < 128) (hj : j ≤ 9) (h : k * 128 ^ j < 18446744073709551616) : k / 128 * 128 ^ (j + 1) < 18446744073709551616 ∧ j + 1 ≤ 9 := by
  constructor
  · have h1 : k / 128 * 128 ^ (j + 1) = (k / 128 * 128) * 128 ^ j := by rw [Nat.pow_succ, Nat.mul_assoc, Nat.mul_comm 128, ← Nat.mul_assoc]
    rw [h1]
    exact Nat.lt_of_le_of_lt (Nat.mul_le_mul_right _ (Nat.div_mul_le_self k 128)) h
  · rcases Nat.lt_or_ge j 9 with h1 | h1
    · omega
    · obtain rfl : j = 9 := by omega
      have h2 : 128 * 128 ^ 9 ≤ k * 128 ^ 9 := Nat.mul_le_mul_right _ (by omega)
      have h3 : (128 : Nat) * 128 ^ 9 = 1180591620717411303424 := by decide
      omega
set_option maxRecDepth 100000 in
set_option maxHeartbeats 1000000 in
theorem put_any (n : Nat) (h1 : n < 18446744073709551616) (w : World) :
    Calls Tryz.prog 53 #[.int .u64 n] w fun e w' => e = .returned (strL (sput n)) ∧ Below w.heap.size w w' := by
  obtain ⟨i0, hi, hz0, hz1, hz2⟩ := info_parts infoU8
  have h1 := Lib.hid h1
  go_enter Tryz.func53, Tryz.ntmps53
  go_wp2_with fail
  go_loopw [0, 3] (fun m v wr => ∃ (k : Nat) (acc : List UInt8), m = .int .u64 k ∧ k * 128 ^ acc.length < 18446744073709551616 ∧ acc.length ≤ 9 ∧ acc ++ sput k = sput n ∧ wr.ownsRow w.heap.size 5 1 v acc.length (cellsL acc) ∧ Below w.heap.size w wr) (fun m _ _ => (intOf m).toNat)
  case atStart => exact ⟨n, [], rfl, by simpa using h1.out, by simp, rfl, World.ownsRow_nil _ _ _ _, Below.refl _ _⟩
  case round =>
    obtain ⟨k, acc, rfl, hk, hl, hp, hown, hb⟩ := hrel
    have hk := Lib.hid hk
    by_cases hlt : k < 128
    · have hk2 := u8_small hlt
      replace hk2 := Lib.hid hk2
      go_wp2_with (at_builtin; go_loud (refine wpList_append_any _ rfl _ _ 128 rfl w.heap.size 5 i0 (.int .u8 0) 1 1 Tryz.underlying128 hi hz0 hz1 hz2 rfl (by decide) _ _ _ rfl (hown.alloc _) (wr.heap.size + 1) (some ⟨wr.heap.size, 0, none⟩) 1 1 [.int .u8 (k : Int)] rfl (reads_new wr 5 (.int .u8 (k : Int))) (by simp [Value.oneCell']) (by unfold maxLen; omega) (by omega) (by have := hb.size; simp; omega) ?_; intro v' w1 hown1 hgrow hloc; rw [hk2.out, cellsL_snoc] at hown1; obtain ⟨g, cap, rfl, hconv⟩ := own_string hown1 (by omega)))
      go_ret
      refine ⟨?_, own_below (Nat.le_refl _) (Below.more_ hb _) (hown.alloc _) hgrow⟩
      rw [← hp, sput_small hlt, ← b7_eq]; rfl
    · have hx := or128 k
      go_wp2_with (at_builtin; refine wpList_append_any _ rfl _ _ 128 rfl w.heap.size 5 i0 (.int .u8 0) 1 1 Tryz.underlying128 hi hz0 hz1 hz2 rfl (by decide) _ _ _ rfl (hown.alloc _) (wr.heap.size + 1) (some ⟨wr.heap.size, 0, none⟩) 1 1 [.int .u8 (u8i (b8 k))] rfl (reads_new wr 5 (.int .u8 (u8i (b8 k)))) (by simp [Value.oneCell']) (by unfold maxLen; omega) (by omega) (by have := hb.size; simp; omega) ?_; intro v' w1 hown1 hgrow hloc; rw [cellsL_snoc] at hown1)
      go_roundw
      case rel =>
        obtain ⟨q1, q2⟩ := pow_bound hlt hl hk.out
        refine ⟨k / 128, acc ++ [b8 k], ?_, by simpa using q1, by simpa using q2, by rw [← hp, sput_big hlt, b8_eq]; simp, by simpa using hown1, own_below (Nat.le_refl _) (Below.more_ hb _) (hown.alloc _) hgrow⟩
        go_num
      case measure => simp [intOf]; omega
end Go.Proofs.YtpkkjoiglemlgaaGreatDoor
