import Derived.OpenShut
import Derived.BigQuiet
import Derived.Deep.RegionWith
import Derived.Deep.RegionHeld3
import Derived.StillTailTactics
import Derived.Laws.Tables
import Derived.Test.YtmlnhjfdhjachaaGreatQll4
/-
  Texts stirred into numbers, and the ways that these begin (layer 5). No condition.
-/
namespace Go.Proofs.YtmlnhjfdhjachaaGreat
set_option linter.unusedVariables false
open Go.ChangeShapes Go.WideShapes Go.ChangeAt Go.RowKit
open Go.ChangeMaps (setBlock)

/-- A text's byte. -/
@[irreducible] def tb (s : ByteArray) (i : Nat) : Nat := if h : i < s.size then s[i].toNat else 0
theorem tb_lt (s : ByteArray) (i : Nat) : tb s i < 256 := by
  unfold tb
  split
  · exact UInt8.toNat_lt _
  · omega
theorem index_tb (s : ByteArray) (i : Nat) (h : i < s.size) (w : World) : (Instr.index 9 (.string s) (.int .i64 (i : Int))).run Tryz.prog w = .ok (.int .u8 (tb s i : Nat)) w := by
  have e : s[i].toNat = tb s i := by unfold tb; rw [dif_pos h]
  rw [run_index_string w 9 s .i64 i Tryz.underlying9, dif_pos ⟨by omega, by omega⟩, ← e]
  rfl
def moreP (n c : Int) : Int := bits BinOp.xor IntKind.u64 (IntKind.u64.wrap (bits BinOp.xor IntKind.u64 n c * 1099511628211)) (IntKind.u64.wrap (bits BinOp.xor IntKind.u64 n c * 1099511628211) / 536870912)
theorem bits_ok (op : BinOp) (x y : Int) : 0 ≤ bits op IntKind.u64 x y ∧ bits op IntKind.u64 x y ≤ 18446744073709551615 := bounds_u64 (wf_bits op .u64 x y)
theorem moreP_ok (n c : Int) : 0 ≤ moreP n c ∧ moreP n c ≤ 18446744073709551615 := bits_ok _ _ _
theorem more_any (n c : Int) (hn : 0 ≤ n ∧ n ≤ 18446744073709551615) (hc : 0 ≤ c ∧ c ≤ 255) (w : World) : Calls Tryz.prog 111 #[.int .u64 n, .int .u8 c] w fun e w' => e = .returned (.int .u64 (moreP n c)) ∧ w = w' := by
  go_enter Tryz.func111, Tryz.ntmps111
  go_wp2_with fail
  go_ret
  exact ⟨rfl, rfl⟩
/-- The number behind some bytes. -/
def sumN (n : Int) (s : ByteArray) : Nat → Int
  | 0 => n
  | k + 1 => moreP (sumN n s k) (tb s k : Nat)
def sumP (seed : Int) (s : ByteArray) : Int := sumN (bits BinOp.xor IntKind.u64 seed 14695981039346656037) s s.size
theorem sumN_ok (n : Int) (hn : 0 ≤ n ∧ n ≤ 18446744073709551615) (s : ByteArray) : ∀ k, 0 ≤ sumN n s k ∧ sumN n s k ≤ 18446744073709551615
  | 0 => hn
  | k + 1 => moreP_ok _ _
theorem sumP_ok (seed : Int) (s : ByteArray) : 0 ≤ sumP seed s ∧ sumP seed s ≤ 18446744073709551615 := sumN_ok _ (bits_ok _ _ _) s s.size
set_option maxHeartbeats 1000000 in
theorem sum_any (seed : Int) (s : ByteArray) (hs : s.size ≤ 9223372036854775807) (w : World) : Calls Tryz.prog 88 #[.int .u64 seed, .string s] w fun e w' => e = .returned (.int .u64 (sumP seed s)) ∧ w = w' := by
  have hP : sumP seed s = sumN (bits BinOp.xor IntKind.u64 seed 14695981039346656037) s s.size := rfl
  have hok := sumN_ok _ (bits_ok BinOp.xor seed 14695981039346656037) s
  rw [hP]
  clear hP
  generalize hb : bits BinOp.xor IntKind.u64 seed 14695981039346656037 = b0 at *
  generalize hsz : s.size = n at *
  replace hok := Lib.hid hok
  go_enter Tryz.func88, Tryz.ntmps88
  go_wp2_with fail
  go_loop [5, 11] (fun v i => ∃ k : Nat, k ≤ n ∧ i = .int .i64 k ∧ v = .int .u64 (sumN b0 s k)) (fun _ i => n + 1 - (intOf i).toNat)
  case atStart => exact ⟨0, Nat.zero_le _, rfl, rfl⟩
  case round =>
    obtain ⟨k, hk, rfl, rfl⟩ := hrel
    by_cases hlt : k < n
    · have d2 : decide ((k : Int) < (n : Int)) = true := by simp; omega
      have hix := fun W => index_tb s k (by omega) W
      have hM := fun W => more_any (sumN b0 s k) (tb s k : Nat) (hok.out k) ⟨by omega, by have := tb_lt s k; omega⟩ W
      have hS : sumN b0 s (k + 1) = moreP (sumN b0 s k) (tb s k : Nat) := rfl
      generalize sumN b0 s k = x at *
      generalize tb s k = y at *
      rw [← hS] at hM
      replace hS := Lib.hid hS
      replace hM := Lib.hid hM
      go_wp2_with fail
      refine (hM.out _).mono ?_; rintro e w1 ⟨rfl, rfl⟩
      go_wp2_with fail
      go_round
      case rel => exact ⟨k + 1, by omega, by go_num, rfl⟩
      case measure => simp [intOf]; omega
    · have d2 : decide ((k : Int) < (n : Int)) = false := by simp; omega
      obtain rfl : k = n := by omega
      go_wp2_with fail
      go_ret
      exact ⟨rfl, rfl⟩
/-- The places of a way. -/
def placeP (n w i : Int) : Int := (n % w + i) % w
theorem rest64_any (n c : Int) (hn : 0 ≤ n ∧ n ≤ 18446744073709551615) (hc : 1 ≤ c ∧ c ≤ 64) (w : World) : Calls Tryz.prog 142 #[.int .u64 n, .int .u64 c] w fun e w' => e = .returned (.int .u64 (n % c)) ∧ w = w' := by
  have h1 := Int.ediv_mul_add_emod n c
  have h2 := Int.emod_nonneg n (b := c) (by omega)
  have h3 := Int.emod_lt_of_pos n (b := c) (by omega)
  have e1 : IntKind.u64.wrap (n / c * c) = n / c * c := IntWalk.u64_in _ (by
    have := Int.ediv_nonneg hn.1 (by omega : (0 : Int) ≤ c)
    have := Int.mul_nonneg this (by omega : (0 : Int) ≤ c)
    omega)
  have e2 : IntKind.u64.wrap (n - n / c * c) = n % c := by rw [show n - n / c * c = n % c by omega]; exact IntWalk.u64_in _ (by omega)
  clear h1 h2 h3
  go_enter Tryz.func142, Tryz.ntmps142
  go_wp2_with fail
  go_ret
  exact ⟨rfl, rfl⟩
theorem rest_any (n c : Int) (hn : 0 ≤ n ∧ n ≤ 1000) (hc : 1 ≤ c ∧ c ≤ 64) (w : World) : Calls Tryz.prog 140 #[.int .i64 n, .int .i64 c] w fun e w' => e = .returned (.int .i64 (n % c)) ∧ w = w' := by
  have h1 := Int.ediv_mul_add_emod n c
  have h2 := Int.emod_nonneg n (b := c) (by omega)
  have h3 := Int.emod_lt_of_pos n (b := c) (by omega)
  have e0 : IntKind.i64.wrap (n.tdiv c) = n / c := by
    rw [Int.tdiv_eq_ediv_of_nonneg hn.1]
    exact IntWalk.i64_in _ (by
      have := Int.ediv_nonneg hn.1 (by omega : (0 : Int) ≤ c)
      have := Int.ediv_le_self c hn.1
      omega)
  have e1 : IntKind.i64.wrap (n / c * c) = n / c * c := IntWalk.i64_in _ (by omega)
  have e2 : IntKind.i64.wrap (n - n / c * c) = n % c := by rw [show n - n / c * c = n % c by omega]; exact IntWalk.i64_in _ (by omega)
  clear h1 h2 h3
  go_enter Tryz.func140, Tryz.ntmps140
  go_wp2_with fail
  go_ret
  exact ⟨rfl, rfl⟩
theorem start_any (n c : Int) (hn : 0 ≤ n ∧ n ≤ 18446744073709551615) (hc : 1 ≤ c ∧ c ≤ 64) (w : World) : Calls Tryz.prog 139 #[.int .u64 n, .int .i64 c] w fun e w' => e = .returned (.int .i64 (n % c)) ∧ w = w' := by
  have hR := fun W => rest64_any n c hn hc W
  have h2 := Int.emod_nonneg n (b := c) (by omega)
  have h3 := Int.emod_lt_of_pos n (b := c) (by omega)
  generalize n % c = r at *
  have d0 : decide (c < 1) = false := by simp; omega
  have e1 : IntKind.u64.wrap c = c := IntWalk.u64_in _ (by omega)
  have e2 : IntKind.i64.wrap r = r := IntWalk.i64_in _ (by omega)
  replace hR := Lib.hid hR
  go_enter Tryz.func139, Tryz.ntmps139
  go_wp2_with fail
  refine (hR.out _).mono ?_; rintro e w1 ⟨rfl, rfl⟩
  go_wp2_with fail
  go_ret
  exact ⟨rfl, rfl⟩
theorem placeP_ok (n c i : Int) (hc : 1 ≤ c) : 0 ≤ placeP n c i ∧ placeP n c i < c := ⟨Int.emod_nonneg _ (by omega), Int.emod_lt_of_pos _ (by omega)⟩
theorem place_any (n c i : Int) (hn : 0 ≤ n ∧ n ≤ 18446744073709551615) (hc : 1 ≤ c ∧ c ≤ 64) (hi : 0 ≤ i ∧ i < c) (w : World) : Calls Tryz.prog 135 #[.int .u64 n, .int .i64 c, .int .i64 i] w fun e w' => e = .returned (.int .i64 (placeP n c i)) ∧ w = w' := by
  have hS := fun W => start_any n c hn hc W
  have h2 := Int.emod_nonneg n (b := c) (by omega)
  have h3 := Int.emod_lt_of_pos n (b := c) (by omega)
  have hP : placeP n c i = (n % c + i) % c := rfl
  rw [hP]
  clear hP
  generalize n % c = r at *
  have d0 : decide (i < 0) = false := by simp; omega
  have d1 : decide (c ≤ i) = false := by simp; omega
  have e1 : IntKind.i64.wrap (c - r) = c - r := IntWalk.i64_in _ (by omega)
  replace hS := Lib.hid hS
  by_cases hl : i < c - r
  · have d2 : decide (i < c - r) = true := by simp; omega
    have e2 : IntKind.i64.wrap (c - (c - r)) = r := by rw [show c - (c - r) = r by omega]; exact IntWalk.i64_in _ (by omega)
    have e3 : IntKind.i64.wrap (r + i) = r + i := IntWalk.i64_in _ (by omega)
    have e4 : (r + i) % c = r + i := Int.emod_eq_of_lt (by omega) (by omega)
    rw [e4]
    clear e4
    go_enter Tryz.func135, Tryz.ntmps135
    go_wp2_with fail
    refine (hS.out _).mono ?_; rintro e w1 ⟨rfl, rfl⟩
    go_wp2_with fail
    go_ret
    exact ⟨rfl, rfl⟩
  · have d2 : decide (i < c - r) = false := by simp; omega
    have e2 : IntKind.i64.wrap (i - (c - r)) = i - (c - r) := IntWalk.i64_in _ (by omega)
    have hR := fun W => rest_any (i - (c - r)) c (by omega) hc W
    have e4 : (r + i) % c = (i - (c - r)) % c := by rw [show i - (c - r) = r + i - c by omega, Int.sub_emod_right]
    rw [e4]
    clear e4
    replace hR := Lib.hid hR
    go_enter Tryz.func135, Tryz.ntmps135
    go_wp2_with fail
    refine (hS.out _).mono ?_; rintro e w1 ⟨rfl, rfl⟩
    go_wp2_with fail
    refine (hR.out _).mono ?_; rintro e w1 ⟨rfl, rfl⟩
    go_wp2_with fail
    go_ret
    exact ⟨rfl, rfl⟩
end Go.Proofs.YtmlnhjfdhjachaaGreat

/-
  The routine that looks for a key's shelf (layer 23): what each of its functions does. No condition.
-/
namespace Go.Proofs.YtmlnhjfdhjachaaGreat
set_option linter.unusedVariables false
open Go.ChangeShapes Go.WideShapes Go.ChangeAt Go.RowKit
open Go.ChangeMaps (setBlock)

structure PFind where
  cfg : PCfg
  key : ByteArray
  sum : Int
  i : Int
  block : Int
  kind : Int
  shelf : Int
  made : Bool
def PFind.cells (s : PFind) : Array Value := #[.int .i64 s.cfg.cap, .int .i64 s.cfg.pins, .int .i64 s.cfg.shelves, .int .i64 s.cfg.queue, .int .i64 s.cfg.watchers, .int .u64 s.cfg.seed, .string s.key, .int .u64 s.sum, .int .i64 s.i, .int .u64 s.block, .int .i64 s.kind, .int .i64 s.shelf, .bool s.made]
def PFind.place (s : PFind) : Int := placeP s.sum s.cfg.shelves s.i
def PFind.idle (s : PFind) : Bool := !s.made || s.kind != 0
structure FindIn (w : World) (b : Nat) (s : PFind) : Prop where
  blk : Blk w b 175 s.cells
  right : s.made = true → s.cfg.Right
  i : s.made = true → 0 ≤ s.i ∧ s.i ≤ s.cfg.shelves ∧ (s.kind = 0 → s.i < s.cfg.shelves)
  sum : 0 ≤ s.sum ∧ s.sum ≤ 18446744073709551615
  block : 0 ≤ s.block ∧ s.block ≤ 18446744073709551615
  kind : 0 ≤ s.kind ∧ s.kind ≤ 3
  free : s.kind = 0 → s.shelf = 0
  key : s.key.size ≤ 9223372036854775807
theorem FindIn.keep {w w' : World} {b : Nat} {s : PFind} (h : FindIn w b s) (hb : w'.heap[b]? = w.heap[b]?) : FindIn w' b s := ⟨h.blk.keep hb, h.right, h.i, h.sum, h.block, h.kind, h.free, h.key⟩
theorem FindIn.below {w w' : World} {b : Nat} {s : PFind} (h : FindIn w b s) (hb : Below w.heap.size w w') : FindIn w' b s := h.keep (hb.block _ h.blk.lt)
/-- What it does next. -/
def PFind.act (s : PFind) : PAct × Bool :=
  if s.idle then (noAct, false)
  else if s.block ≠ 0 then (⟨6, s.block, 0, 0, 0, ByteArray.empty⟩, true)
  else (⟨1, 1, 3 + s.cfg.pins + s.cfg.cap + 2 * s.place, 0, 0, ByteArray.empty⟩, true)
/-- What it takes. -/
def PFind.take (s : PFind) (g : PGot) : PFind :=
  if s.idle then s
  else if s.block = 0 then
    if g.word = 0 then { s with kind := 2, shelf := s.place } else { s with block := g.word }
  else if g.text = s.key then { s with kind := 1, shelf := s.place }
  else if s.i + 1 = s.cfg.shelves then { s with block := 0, i := s.i + 1, kind := 3, shelf := 0 }
  else { s with block := 0, i := s.i + 1 }
def PFind.result (s : PFind) : (Int × Int) × Bool := if s.kind = 0 then ((0, 0), false) else ((s.kind, s.shelf), true)
set_option maxHeartbeats 1000000 in
theorem fover_any {w : World} {b : Nat} {s : PFind} (h : FindIn w b s) : Calls Tryz.prog 123 #[.pointer (some ⟨b, 0, none⟩)] w fun e w' => e = .returned (.bool s.idle) ∧ w = w' := by
  have hE : s.idle = (!s.made || s.kind != 0) := rfl
  rw [hE]
  clear hE
  have hk := h.kind
  have hf := h.free
  obtain ⟨⟨a, p, sh, q, t, z⟩, key, sum, i, block, kind, shelf, made⟩ := s
  have hB : Blk w b 175 #[.int .i64 a, .int .i64 p, .int .i64 sh, .int .i64 q, .int .i64 t, .int .u64 z, .string key, .int .u64 sum, .int .i64 i, .int .u64 block, .int .i64 kind, .int .i64 shelf, .bool made] := h.blk
  have c10 := hB.cell 10
  have c11 := hB.cell 11
  have c12 := hB.cell 12
  simp only at hk hf ⊢
  have hlt := hB.lt
  replace hB := Lib.hid hB
  replace h := Lib.hid h
  cases made with
  | false =>
    go_enter Tryz.func123, Tryz.ntmps123
    go_wp2_with fail
    go_ret
    exact ⟨rfl, rfl⟩
  | true =>
    by_cases hk0 : kind = 0
    · obtain rfl := hf hk0
      subst hk0
      clear hf
      go_enter Tryz.func123, Tryz.ntmps123
      go_wp2_with fail
      go_ret
      exact ⟨rfl, rfl⟩
    · have d1 : (kind == 0) = false := by simp [hk0]
      have d2 : (kind != 0) = true := by simp [hk0]
      rw [d2]
      clear hf
      replace hk0' := Lib.hid hk0
      go_enter Tryz.func123, Tryz.ntmps123
      go_wp2_with fail
      go_ret
      exact ⟨by simp, rfl⟩
set_option maxHeartbeats 1000000 in
theorem findResult_any {w : World} {b : Nat} {s : PFind} (h : FindIn w b s) : Calls Tryz.prog 61 #[.pointer (some ⟨b, 0, none⟩)] w fun e w' => e = .returned (.tuple #[.agg #[.int .i64 s.result.1.1, .int .i64 s.result.1.2], .bool s.result.2]) ∧ Below w.heap.size w w' := by
  have hr : s.result = if s.kind = 0 then ((0, 0), false) else ((s.kind, s.shelf), true) := rfl
  rw [hr]
  clear hr
  have hf := h.free
  obtain ⟨⟨a, p, sh, q, t, z⟩, key, sum, i, block, kind, shelf, made⟩ := s
  have hB : Blk w b 175 #[.int .i64 a, .int .i64 p, .int .i64 sh, .int .i64 q, .int .i64 t, .int .u64 z, .string key, .int .u64 sum, .int .i64 i, .int .u64 block, .int .i64 kind, .int .i64 shelf, .bool made] := h.blk
  have c10 := hB.cell 10
  have c11 := hB.cell 11
  simp only at hf ⊢
  have hlt := hB.lt
  replace hB := Lib.hid hB
  replace h := Lib.hid h
  by_cases hk0 : kind = 0
  · obtain rfl := hf hk0
    subst hk0
    clear hf
    simp only [if_true]
    go_enter Tryz.func61, Tryz.ntmps61
    go_wp2_with fail
    refine bodyPost_ret (v := .tuple #[.agg #[.int .i64 0, .int .i64 0], .bool false]) (by simp [results, Tryz.results61, go_sem]) rfl ⟨by simp, ?_⟩
    (repeat first | exact Below.refl _ _ | assumption | refine Below.drew ?_ | refine below_drewN ?_ _ | refine Below.more_ ?_ _ | refine Below.setCell ?_ (by first | exact Nat.le_refl _ | (simp; done) | (simp; omega)) _)
  · have d1 : (kind == 0) = false := by simp [hk0]
    rw [if_neg hk0]
    clear hf
    replace hk0' := Lib.hid hk0
    go_enter Tryz.func61, Tryz.ntmps61
    go_wp2_with fail
    refine bodyPost_ret (v := .tuple #[.agg #[.int .i64 kind, .int .i64 shelf], .bool true]) (by simp [results, Tryz.results61, go_sem]) rfl ⟨by simp, ?_⟩
    (repeat first | exact Below.refl _ _ | assumption | refine Below.drew ?_ | refine below_drewN ?_ _ | refine Below.more_ ?_ _ | refine Below.setCell ?_ (by first | exact Nat.le_refl _ | (simp; done) | (simp; omega)) _)
set_option maxRecDepth 100000 in
set_option maxHeartbeats 2000000 in
theorem fshelf_any {w : World} {b : Nat} {s : PFind} (h : FindIn w b s) (hm : s.made = true) (hk0 : s.kind = 0) : Calls Tryz.prog 124 #[.pointer (some ⟨b, 0, none⟩)] w fun e w' => e = .returned (.int .i64 s.place) ∧ ∃ n, w' = w.drewN n := by
  have hi := h.i hm
  have hs := (h.right hm).shelves
  have hPl := fun W => place_any s.sum s.cfg.shelves s.i h.sum hs ⟨hi.1, hi.2.2 hk0⟩ W
  have hP : s.place = placeP s.sum s.cfg.shelves s.i := rfl
  rw [← hP] at hPl
  clear hP
  generalize s.place = pl at *
  obtain ⟨⟨a, p, sh, q, t, z⟩, key, sum, i, block, kind, shelf, made⟩ := s
  have hB : Blk w b 175 #[.int .i64 a, .int .i64 p, .int .i64 sh, .int .i64 q, .int .i64 t, .int .u64 z, .string key, .int .u64 sum, .int .i64 i, .int .u64 block, .int .i64 kind, .int .i64 shelf, .bool made] := h.blk
  have c2 := hB.cell 2
  have c7 := hB.cell 7
  have c8 := hB.cell 8
  simp only at hPl
  have hlt := hB.lt
  replace hB := Lib.hid hB
  replace h := Lib.hid h
  replace hi := Lib.hid hi
  replace hPl := Lib.hid hPl
  replace hm := Lib.hid hm
  replace hk0 := Lib.hid hk0
  go_enter Tryz.func124, Tryz.ntmps124
  go_wp2_with fail
  go_quiet ((go_at_call 135; exact Calls.quiet_of_same ((hPl.out _).mono fun _ _ hp => ⟨hp.1, hp.2.symm⟩)))
  go_wp2_with fail
  go_ret
  exact ⟨rfl, _, rfl⟩
set_option maxRecDepth 100000 in
set_option maxHeartbeats 8000000 in
theorem findAct_any {w : World} {b : Nat} {s : PFind} (h : FindIn w b s) : Calls Tryz.prog 104 #[.pointer (some ⟨b, 0, none⟩)] w fun e w' => e = .returned (.tuple #[s.act.1.val, .bool s.act.2]) ∧ Below w.heap.size w w' := by
  have hO := fun W (hb : Below w.heap.size w W) => fover_any (h.below hb)
  have hA : s.act = if s.idle then (noAct, false) else if s.block ≠ 0 then (⟨6, s.block, 0, 0, 0, ByteArray.empty⟩, true) else (⟨1, 1, 3 + s.cfg.pins + s.cfg.cap + 2 * s.place, 0, 0, ByteArray.empty⟩, true) := rfl
  have hSh := fun W (hb : Below w.heap.size w W) (h1 : s.made = true) (h2 : s.kind = 0) => fshelf_any (h.below hb) h1 h2
  have hI : s.idle = (!s.made || s.kind != 0) := rfl
  have hKy : s.made = true → s.kind = 0 → ∀ W, Calls Tryz.prog 39 #[s.cfg.val, .int .i64 s.place] W fun e w' => e = .returned (.int .i64 (3 + s.cfg.pins + s.cfg.cap + 2 * s.place)) ∧ Below W.heap.size W w' := fun h1 h2 W => planKey_any s.cfg (h.right h1) s.place (placeP_ok _ _ _ (h.right h1).shelves.1) W
  rw [hA]
  clear hA
  generalize s.place = pl at *
  cases hid : s.idle with
  | true =>
    rw [hid] at hO
    have hz : Below w.heap.size w (w.alloc (.cells #[.int .i64 0, .int .u64 0, .int .i64 0, .int .u64 0, .int .u64 0, .string ⟨#[]⟩] 31)) := (Below.refl _ _).alloc (Nat.le_refl _) _
    simp only [if_true]
    rw [show PAct.val noAct = .agg #[.int .i64 0, .int .u64 0, .int .i64 0, .int .u64 0, .int .u64 0, .string ⟨#[]⟩] from rfl]
    replace h := Lib.hid h
    replace hO := Lib.hid hO
    replace hz := Lib.hid hz
    replace hSh := Lib.hid hSh
    replace hKy := Lib.hid hKy
    replace hI := Lib.hid hI
    replace hid := Lib.hid hid
    go_enter Tryz.func104, Tryz.ntmps104
    go_wp2_with fail
    refine (hO.out _ hz.out).mono ?_; rintro e w1 ⟨rfl, rfl⟩
    go_wp2_with fail
    refine bodyPost_ret (v := .tuple #[.agg #[.int .i64 0, .int .u64 0, .int .i64 0, .int .u64 0, .int .u64 0, .string ⟨#[]⟩], .bool false]) (by simp [results, Tryz.results104, go_sem]) rfl ⟨rfl, ?_⟩
    (repeat first | exact Below.refl _ _ | assumption | refine Below.drew ?_ | refine below_drewN ?_ _ | refine Below.more_ ?_ _ | refine Below.setCell ?_ (by first | exact Nat.le_refl _ | (simp; done) | (simp; omega)) _)
  | false =>
    rw [hid] at hO hI
    have hmk : s.made = true ∧ s.kind = 0 := by
      cases hm : s.made with
      | false => rw [hm] at hI; cases hI
      | true => rw [hm] at hI; exact ⟨rfl, by simpa using hI.symm⟩
    have hSh2 := fun W hb => hSh W hb hmk.1 hmk.2
    have hKy2 := fun W => hKy hmk.1 hmk.2 W
    have hz : Below w.heap.size w (w.alloc (.cells #[.int .i64 0, .int .u64 0, .int .i64 0, .int .u64 0, .int .u64 0, .string ⟨#[]⟩] 31)) := (Below.refl _ _).alloc (Nat.le_refl _) _
    have B1 := Blk.new w 31 #[.int .i64 0, .int .u64 0, .int .i64 0, .int .u64 0, .int .u64 0, .string ⟨#[]⟩]
    have hbk := h.block
    have hlt := h.blk.lt
    simp only [Bool.false_eq_true, if_false]
    clear hSh hKy hid hI hmk
    obtain ⟨⟨a, p, sh, q, t, z⟩, key, sum, i, block, kind, shelf, made⟩ := s
    have hB : Blk w b 175 #[.int .i64 a, .int .i64 p, .int .i64 sh, .int .i64 q, .int .i64 t, .int .u64 z, .string key, .int .u64 sum, .int .i64 i, .int .u64 block, .int .i64 kind, .int .i64 shelf, .bool made] := h.blk
    have c0 := hB.cell 0
    have c1 := hB.cell 1
    have c2 := hB.cell 2
    have c3 := hB.cell 3
    have c4 := hB.cell 4
    have c5 := hB.cell 5
    have c9 := hB.cell 9
    simp only at hKy2 hbk ⊢
    rw [show PCfg.val ⟨a, p, sh, q, t, z⟩ = .agg #[.int .i64 a, .int .i64 p, .int .i64 sh, .int .i64 q, .int .i64 t, .int .u64 z] from rfl] at hKy2
    replace h := Lib.hid h
    replace hB := Lib.hid hB
    replace B1 := Lib.hid B1
    replace hO := Lib.hid hO
    replace hz := Lib.hid hz
    replace hSh2 := Lib.hid hSh2
    replace hKy2 := Lib.hid hKy2
    by_cases hb0 : block = 0
    · subst hb0
      simp only [ne_eq, not_true_eq_false, if_false]
      generalize hce : 3 + p + sh * 0 + a + 2 * pl = ce0 at *
      have hce2 : 3 + p + a + 2 * pl = ce0 := by rw [← hce]; omega
      rw [hce2] at hKy2 ⊢
      replace hce := Lib.hid hce
      replace hce2 := Lib.hid hce2
      rw [show PAct.val ⟨1, 1, ce0, 0, 0, ByteArray.empty⟩ = .agg #[.int .i64 1, .int .u64 1, .int .i64 ce0, .int .u64 0, .int .u64 0, .string ⟨#[]⟩] from rfl]
      go_enter Tryz.func104, Tryz.ntmps104
      go_wp2_with fail
      refine (hO.out _ hz.out).mono ?_; rintro e w1 ⟨rfl, rfl⟩
      go_wp2_with fail
      go_region_with (first | (go_at_call 124; refine (hSh2.out _ (by first | exact hz.out | exact hz.out.drew | exact below_drewN hz.out _ | exact (below_drewN hz.out _).drew)).mono ?_; rintro e w1 ⟨rfl, n1, rfl⟩) | (go_at_call 39; refine (hKy2.out _).mono ?_; rintro e w2 ⟨rfl, hb⟩; have A2 : Blk w2 w.heap.size 31 #[.int .i64 0, .int .u64 0, .int .i64 0, .int .u64 0, .int .u64 0, .string ⟨#[]⟩] := (by first | exact (B1.out.drewN _).below hb (B1.out.drewN _).lt | exact (B1.out.drew).below hb B1.out.drew.lt | exact ((B1.out.drewN _).drew).below hb (B1.out.drewN _).drew.lt); have hb1 : Below w.heap.size w w2 := Below.next_ (by first | exact hz.out | exact hz.out.drew | exact below_drewN hz.out _ | exact (below_drewN hz.out _).drew | exact below_drewN (below_drewN hz.out _) _ | exact (below_drewN (below_drewN hz.out _) _).drew | exact below_drewN (hz.out.drew) _ | exact (below_drewN hz.out.drew _).drew) hb; have f0 := A2.frozen 0; have f1 := A2.frozen 1; have f2 := A2.frozen 2; have f3 := A2.frozen 3; have f4 := A2.frozen 4; have f5 := A2.frozen 5; have g0 := A2.cell 0; have g1 := A2.cell 1; have g2 := A2.cell 2; have g3 := A2.cell 3; have g4 := A2.cell 4; have g5 := A2.cell 5; replace A2 := Lib.hid A2; replace hb1 := Lib.hid hb1; clear hb))
      all_goals
        go_wp2_with fail
        refine gen_world (α := fun W' => bodyPost _ _ _ _ _ W') (fun W' => Blk W' w.heap.size 31 #[.int .i64 1, .int .u64 1, .int .i64 ce0, .int .u64 0, .int .u64 0, .string ⟨#[]⟩] ∧ Below w.heap.size w W') ⟨?_, ?_⟩ ?_
        · exact Blk.eq_cs ((((((A2.out.set_ 0 _).set_ 1 _).set_ 2 _).set_ 3 _).set_ 4 _).set_ 5 _) rfl
        · repeat (refine Below.setCell ?_ (by exact Nat.le_refl _) _)
          exact hb1.out
        rintro W' ⟨q1, q2⟩
        have e0 := q1.cell 0
        have e1 := q1.cell 1
        have e2 := q1.cell 2
        have e3 := q1.cell 3
        have e4 := q1.cell 4
        have e5 := q1.cell 5
        exact bodyPost_ret (v := .tuple #[.agg #[.int .i64 1, .int .u64 1, .int .i64 ce0, .int .u64 0, .int .u64 0, .string ⟨#[]⟩], .bool true]) (by simp [results, Tryz.results104, go_sem, e0, e1, e2, e3, e4, e5]) rfl ⟨rfl, q2⟩
    · have d1 : (block == 0) = false := by simp [hb0]
      rw [if_pos (by simpa using hb0)]
      replace hb0' := Lib.hid hb0
      clear hKy2 hSh2
      rw [show PAct.val ⟨6, block, 0, 0, 0, ByteArray.empty⟩ = .agg #[.int .i64 6, .int .u64 block, .int .i64 0, .int .u64 0, .int .u64 0, .string ⟨#[]⟩] from rfl]
      go_enter Tryz.func104, Tryz.ntmps104
      go_wp2_with fail
      refine (hO.out _ hz.out).mono ?_; rintro e w1 ⟨rfl, rfl⟩
      go_wp2_with fail
      refine bodyPost_ret (v := .tuple #[.agg #[.int .i64 6, .int .u64 block, .int .i64 0, .int .u64 0, .int .u64 0, .string ⟨#[]⟩], .bool true]) (by simp [results, Tryz.results104, go_sem]) rfl ⟨rfl, ?_⟩
      (repeat first | exact Below.refl _ _ | assumption | refine Below.drew ?_ | refine below_drewN ?_ _ | refine Below.more_ ?_ _ | refine Below.setCell ?_ (by first | exact Nat.le_refl _ | (simp; done) | (simp; omega)) _)
end Go.Proofs.YtmlnhjfdhjachaaGreat

/-
  The routine that looks for a key's shelf (layer 23): what it takes. No condition.
-/
namespace Go.Proofs.YtmlnhjfdhjachaaGreat
set_option linter.unusedVariables false
open Go.ChangeShapes Go.WideShapes Go.ChangeAt Go.RowKit
open Go.ChangeMaps (setBlock)

theorem ftxt_ne {x y : ByteArray} (h : x ≠ y) : ¬ x.toList = y.toList := fun e => h (by rw [ByteArray.toList_eq, ByteArray.toList_eq] at e; exact ByteArray.ext (Array.toList_inj.mp e))
set_option maxRecDepth 100000 in
set_option maxHeartbeats 16000000 in
theorem findTake_any {w : World} {b : Nat} {s : PFind} (h : FindIn w b s) (g : PGot) (hg : g.Ok) : Calls Tryz.prog 162 #[.pointer (some ⟨b, 0, none⟩), g.val] w fun e w' => e = .returned (.tuple #[]) ∧ FindIn w' b (s.take g) ∧ Chg (fun k => k = b) w w' := by
  have hO := fun W (hb : Below w.heap.size w W) => fover_any (h.below hb)
  obtain ⟨gw, gt⟩ := g
  rw [show PGot.val ⟨gw, gt⟩ = .agg #[.int .u64 gw, .string gt] from rfl]
  have hz : Below w.heap.size w (w.alloc (.cells #[.int .u64 gw, .string gt] 52)) := (Below.refl _ _).alloc (Nat.le_refl _) _
  cases hid : s.idle with
  | true =>
    rw [hid] at hO
    have hT : s.take ⟨gw, gt⟩ = s := by unfold PFind.take; rw [if_pos hid]
    rw [hT]
    replace hO := Lib.hid hO
    replace hid := Lib.hid hid
    go_enter Tryz.func162, Tryz.ntmps162
    go_wp2
    go_step3
    go_wp2_with fail
    refine (hO.out _ hz).mono ?_; rintro e w1 ⟨rfl, rfl⟩
    go_wp2_with fail
    rw [Exit.noGoto_ret]
    exact bodyPost_ret (v := .tuple #[]) (results_none (by kernel_rfl) _ _ _) rfl ⟨rfl, h.below hz, Chg.of_below hz _⟩
  | false =>
    rw [hid] at hO
    have hmk : s.made = true ∧ s.kind = 0 := by
      have hI : s.idle = (!s.made || s.kind != 0) := rfl
      rw [hid] at hI
      cases hm : s.made with
      | false => rw [hm] at hI; cases hI
      | true => rw [hm] at hI; exact ⟨rfl, by simpa using hI.symm⟩
    have hsh0 := h.free hmk.2
    have hR := h.right hmk.1
    have hi := h.i hmk.1
    have hil := hi.2.2 hmk.2
    have hsr := hR.shelves
    have hSh := fun W (hb : Below w.heap.size w W) => fshelf_any (h.below hb) hmk.1 hmk.2
    have hT : s.take ⟨gw, gt⟩ = if s.block = 0 then (if gw = 0 then { s with kind := 2, shelf := s.place } else { s with block := gw }) else if gt = s.key then { s with kind := 1, shelf := s.place } else if s.i + 1 = s.cfg.shelves then { s with block := 0, i := s.i + 1, kind := 3, shelf := 0 } else { s with block := 0, i := s.i + 1 } := by unfold PFind.take; rw [if_neg (by rw [hid]; simp)]
    rw [hT]
    generalize s.place = pl at *
    have hsum := h.sum
    have hblk := h.block
    have hkey := h.key
    obtain ⟨hm, hk⟩ := hmk
    obtain ⟨⟨a, p, sh, q, t, z⟩, key, sum, i, block, kind, shelf, made⟩ := s
    simp only at hm hk hsh0 hi hil hsr hsum hblk hkey hT ⊢
    subst hm hk hsh0
    have hB : Blk w b 175 #[.int .i64 a, .int .i64 p, .int .i64 sh, .int .i64 q, .int .i64 t, .int .u64 z, .string key, .int .u64 sum, .int .i64 i, .int .u64 block, .int .i64 0, .int .i64 0, .bool true] := h.blk
    have c2 := hB.cell 2
    have c6 := hB.cell 6
    have c8 := hB.cell 8
    have c9 := hB.cell 9
    have c10 := hB.cell 10
    have c11 := hB.cell 11
    have f8 := hB.frozen 8
    have f9 := hB.frozen 9
    have f10 := hB.frozen 10
    have f11 := hB.frozen 11
    have hlt := hB.lt
    have hw : IntKind.i64.wrap (i + 1) = i + 1 := IntWalk.i64_in _ (by omega)
    replace h := Lib.hid h
    replace hB := Lib.hid hB
    replace hT := Lib.hid hT
    replace hO := Lib.hid hO
    replace hSh := Lib.hid hSh
    replace hid := Lib.hid hid
    replace hz := Lib.hid hz
    have hR := Lib.hid hR
    by_cases hb0 : block = 0
    · subst hb0
      simp only [if_true]
      by_cases hg0 : gw = 0
      · subst hg0
        simp only [if_true]
        as_aux_lemma =>
          go_enter Tryz.func162, Tryz.ntmps162
          go_wp2
          go_step3
          go_wp2_with fail
          refine (hO.out _ hz.out).mono ?_; rintro e w1 ⟨rfl, rfl⟩
          go_wp2_with fail
          go_step3
          go_wp2_with fail
          go_loopw [30] (fun _ W => W = w.alloc (.cells #[.int .u64 0, .string gt] 52)) (fun _ _ => 0)
          case atStart => exact rfl
          subst hrel
          go_wp2_with fail
          refine (hSh.out _ (by first | exact hz.out | exact hz.out.drew | exact below_drewN hz.out _ | exact (below_drewN hz.out _).drew)).mono ?_; rintro e w1 ⟨rfl, n1, rfl⟩
          go_wp2_with fail
          rw [Exit.noGoto_normal]
          refine gen_world (α := fun W' => bodyPost _ _ _ _ _ W') (fun W' => Blk W' b 175 #[.int .i64 a, .int .i64 p, .int .i64 sh, .int .i64 q, .int .i64 t, .int .u64 z, .string key, .int .u64 sum, .int .i64 i, .int .u64 0, .int .i64 2, .int .i64 pl, .bool true] ∧ Chg (fun k => k = b) w W') ⟨?_, ?_⟩ ?_
          · refine Blk.eq_cs (cs := (((#[.int .i64 a, .int .i64 p, .int .i64 sh, .int .i64 q, .int .i64 t, .int .u64 z, .string key, .int .u64 sum, .int .i64 i, .int .u64 0, .int .i64 0, .int .i64 0, .bool true] : Array Value).setIfInBounds 10 (.int .i64 2)).setIfInBounds 11 (.int .i64 pl))) ?_ rfl
            have hB := hB.out
            (repeat first | with_reducible exact hB | with_reducible refine Blk.drewN ?_ _ | with_reducible refine Blk.drew ?_ | with_reducible refine Blk.alloc ?_ _ | with_reducible refine Blk.set_ ?_ _ _ | refine Blk.far ?_ (by simp; omega) _)
          · have hC := Chg.refl (fun k => k = b) w
            repeat first | with_reducible exact hC | with_reducible refine Chg.drew ?_ | with_reducible refine Chg.drewN ?_ _ | with_reducible refine Chg.alloc ?_ _ | refine Chg.setCell ?_ (by left; rfl) _
          rintro W' ⟨g1, g2⟩
          exact bodyPost_end (v := .tuple #[]) (results_none (by kernel_rfl) _ _ _) rfl ⟨rfl, ⟨g1, fun _ => hR.out, fun _ => ⟨hi.1, hi.2.1, fun _ => hil⟩, hsum, hblk, by show (0 : Int) ≤ 2 ∧ (2 : Int) ≤ 3; decide, fun e => (by cases e), hkey⟩, g2⟩
      · rw [if_neg hg0]
        have d1 : (gw == 0) = false := by simp [hg0]
        replace hg0 := Lib.hid hg0
        as_aux_lemma =>
          go_enter Tryz.func162, Tryz.ntmps162
          go_wp2
          go_step3
          go_wp2_with fail
          refine (hO.out _ hz.out).mono ?_; rintro e w1 ⟨rfl, rfl⟩
          go_wp2_with fail
          go_step3
          go_wp2_with fail
          go_loopw [30] (fun _ W => W = w.alloc (.cells #[.int .u64 gw, .string gt] 52)) (fun _ _ => 0)
          case atStart => exact rfl
          subst hrel
          go_wp2_with fail
          rw [Exit.noGoto_normal]
          refine gen_world (α := fun W' => bodyPost _ _ _ _ _ W') (fun W' => Blk W' b 175 #[.int .i64 a, .int .i64 p, .int .i64 sh, .int .i64 q, .int .i64 t, .int .u64 z, .string key, .int .u64 sum, .int .i64 i, .int .u64 gw, .int .i64 0, .int .i64 0, .bool true] ∧ Chg (fun k => k = b) w W') ⟨?_, ?_⟩ ?_
          · refine Blk.eq_cs (cs := ((#[.int .i64 a, .int .i64 p, .int .i64 sh, .int .i64 q, .int .i64 t, .int .u64 z, .string key, .int .u64 sum, .int .i64 i, .int .u64 0, .int .i64 0, .int .i64 0, .bool true] : Array Value).setIfInBounds 9 (.int .u64 gw))) ?_ rfl
            have hB := hB.out
            (repeat first | with_reducible exact hB | with_reducible refine Blk.drewN ?_ _ | with_reducible refine Blk.drew ?_ | with_reducible refine Blk.alloc ?_ _ | with_reducible refine Blk.set_ ?_ _ _ | refine Blk.far ?_ (by simp; omega) _)
          · have hC := Chg.refl (fun k => k = b) w
            repeat first | with_reducible exact hC | with_reducible refine Chg.drew ?_ | with_reducible refine Chg.drewN ?_ _ | with_reducible refine Chg.alloc ?_ _ | refine Chg.setCell ?_ (by left; rfl) _
          rintro W' ⟨g1, g2⟩
          exact bodyPost_end (v := .tuple #[]) (results_none (by kernel_rfl) _ _ _) rfl ⟨rfl, ⟨g1, fun _ => hR.out, fun _ => ⟨hi.1, hi.2.1, fun _ => hil⟩, hsum, hg, by show (0 : Int) ≤ 0 ∧ (0 : Int) ≤ 3; decide, fun _ => rfl, hkey⟩, g2⟩
    · rw [if_neg hb0]
      have d1 : (block == 0) = false := by simp [hb0]
      replace hb0 := Lib.hid hb0
      by_cases hgk : gt = key
      · subst hgk
        simp only [if_true]
        as_aux_lemma =>
          go_enter Tryz.func162, Tryz.ntmps162
          go_wp2
          go_step3
          go_wp2_with fail
          refine (hO.out _ hz.out).mono ?_; rintro e w1 ⟨rfl, rfl⟩
          go_wp2_with fail
          go_step3
          go_wp2_with fail
          go_loopw [30] (fun _ W => W = w.alloc (.cells #[.int .u64 gw, .string gt] 52)) (fun _ _ => 0)
          case atStart => exact rfl
          subst hrel
          go_wp2_with fail
          go_quiet (fail)
          go_wp2_with fail
          refine (hSh.out _ (by first | exact hz.out | exact hz.out.drew | exact below_drewN hz.out _ | exact (below_drewN hz.out _).drew)).mono ?_; rintro e w1 ⟨rfl, n1, rfl⟩
          go_wp2_with fail
          rw [Exit.noGoto_normal]
          refine gen_world (α := fun W' => bodyPost _ _ _ _ _ W') (fun W' => Blk W' b 175 #[.int .i64 a, .int .i64 p, .int .i64 sh, .int .i64 q, .int .i64 t, .int .u64 z, .string gt, .int .u64 sum, .int .i64 i, .int .u64 block, .int .i64 1, .int .i64 pl, .bool true] ∧ Chg (fun k => k = b) w W') ⟨?_, ?_⟩ ?_
          · refine Blk.eq_cs (cs := (((#[.int .i64 a, .int .i64 p, .int .i64 sh, .int .i64 q, .int .i64 t, .int .u64 z, .string gt, .int .u64 sum, .int .i64 i, .int .u64 block, .int .i64 0, .int .i64 0, .bool true] : Array Value).setIfInBounds 10 (.int .i64 1)).setIfInBounds 11 (.int .i64 pl))) ?_ rfl
            have hB := hB.out
            (repeat first | with_reducible exact hB | with_reducible refine Blk.drewN ?_ _ | with_reducible refine Blk.drew ?_ | with_reducible refine Blk.alloc ?_ _ | with_reducible refine Blk.set_ ?_ _ _ | refine Blk.far ?_ (by simp; omega) _)
          · have hC := Chg.refl (fun k => k = b) w
            repeat first | with_reducible exact hC | with_reducible refine Chg.drew ?_ | with_reducible refine Chg.drewN ?_ _ | with_reducible refine Chg.alloc ?_ _ | refine Chg.setCell ?_ (by left; rfl) _
          rintro W' ⟨g1, g2⟩
          exact bodyPost_end (v := .tuple #[]) (results_none (by kernel_rfl) _ _ _) rfl ⟨rfl, ⟨g1, fun _ => hR.out, fun _ => ⟨hi.1, hi.2.1, fun _ => hil⟩, hsum, hblk, by show (0 : Int) ≤ 1 ∧ (1 : Int) ≤ 3; decide, fun e => (by cases e), hkey⟩, g2⟩
      · rw [if_neg hgk]
        have d2 := ftxt_ne hgk
        have d2b : (gt.toList == key.toList) = false := by rw [beq_eq_false_iff_ne]; exact d2
        replace hgk := Lib.hid hgk
        by_cases hie : i + 1 = sh
        · rw [if_pos hie]
          have d3 : (i + 1 == sh) = true := by simp [hie]
          have hie2 := Lib.hid hie
          clear hie
          as_aux_lemma =>
            go_enter Tryz.func162, Tryz.ntmps162
            go_wp2
            go_step3
            go_wp2_with fail
            refine (hO.out _ hz.out).mono ?_; rintro e w1 ⟨rfl, rfl⟩
            go_wp2_with fail
            go_step3
            go_wp2_with fail
            go_loopw [30] (fun _ W => W = w.alloc (.cells #[.int .u64 gw, .string gt] 52)) (fun _ _ => 0)
            case atStart => exact rfl
            subst hrel
            go_wp2_with fail
            go_quiet (fail)
            go_wp2_with fail
            go_quiet (fail)
            go_wp2_with fail
            rw [Exit.noGoto_normal]
            refine gen_world (α := fun W' => bodyPost _ _ _ _ _ W') (fun W' => Blk W' b 175 #[.int .i64 a, .int .i64 p, .int .i64 sh, .int .i64 q, .int .i64 t, .int .u64 z, .string key, .int .u64 sum, .int .i64 (i + 1), .int .u64 0, .int .i64 3, .int .i64 0, .bool true] ∧ Chg (fun k => k = b) w W') ⟨?_, ?_⟩ ?_
            · refine Blk.eq_cs (cs := (((((#[.int .i64 a, .int .i64 p, .int .i64 sh, .int .i64 q, .int .i64 t, .int .u64 z, .string key, .int .u64 sum, .int .i64 i, .int .u64 block, .int .i64 0, .int .i64 0, .bool true] : Array Value).setIfInBounds 9 (.int .u64 0)).setIfInBounds 8 (.int .i64 (i + 1))).setIfInBounds 10 (.int .i64 3)).setIfInBounds 11 (.int .i64 0))) ?_ rfl
              have hB := hB.out
              (repeat first | with_reducible exact hB | with_reducible refine Blk.drewN ?_ _ | with_reducible refine Blk.drew ?_ | with_reducible refine Blk.alloc ?_ _ | with_reducible refine Blk.set_ ?_ _ _ | refine Blk.far ?_ (by simp; omega) _)
            · have hC := Chg.refl (fun k => k = b) w
              repeat first | with_reducible exact hC | with_reducible refine Chg.drew ?_ | with_reducible refine Chg.drewN ?_ _ | with_reducible refine Chg.alloc ?_ _ | refine Chg.setCell ?_ (by left; rfl) _
            rintro W' ⟨g1, g2⟩
            exact bodyPost_end (v := .tuple #[]) (results_none (by kernel_rfl) _ _ _) rfl ⟨rfl, ⟨g1, fun _ => hR.out, fun _ => ⟨by show 0 ≤ i + 1; omega, by show i + 1 ≤ sh; have := hie2.out; omega, fun e => by cases e⟩, hsum, by show (0 : Int) ≤ 0 ∧ (0 : Int) ≤ 18446744073709551615; decide, by show (0 : Int) ≤ 3 ∧ (3 : Int) ≤ 3; decide, fun _ => rfl, hkey⟩, g2⟩
        · rw [if_neg hie]
          have d3 : (i + 1 == sh) = false := by simp [hie]
          have hie2 := Lib.hid hie
          clear hie
          as_aux_lemma =>
            go_enter Tryz.func162, Tryz.ntmps162
            go_wp2
            go_step3
            go_wp2_with fail
            refine (hO.out _ hz.out).mono ?_; rintro e w1 ⟨rfl, rfl⟩
            go_wp2_with fail
            go_step3
            go_wp2_with fail
            go_loopw [30] (fun _ W => W = w.alloc (.cells #[.int .u64 gw, .string gt] 52)) (fun _ _ => 0)
            case atStart => exact rfl
            subst hrel
            go_wp2_with fail
            go_quiet (fail)
            go_wp2_with fail
            go_quiet (fail)
            go_wp2_with fail
            rw [Exit.noGoto_normal]
            refine gen_world (α := fun W' => bodyPost _ _ _ _ _ W') (fun W' => Blk W' b 175 #[.int .i64 a, .int .i64 p, .int .i64 sh, .int .i64 q, .int .i64 t, .int .u64 z, .string key, .int .u64 sum, .int .i64 (i + 1), .int .u64 0, .int .i64 0, .int .i64 0, .bool true] ∧ Chg (fun k => k = b) w W') ⟨?_, ?_⟩ ?_
            · refine Blk.eq_cs (cs := (((#[.int .i64 a, .int .i64 p, .int .i64 sh, .int .i64 q, .int .i64 t, .int .u64 z, .string key, .int .u64 sum, .int .i64 i, .int .u64 block, .int .i64 0, .int .i64 0, .bool true] : Array Value).setIfInBounds 9 (.int .u64 0)).setIfInBounds 8 (.int .i64 (i + 1)))) ?_ rfl
              have hB := hB.out
              (repeat first | with_reducible exact hB | with_reducible refine Blk.drewN ?_ _ | with_reducible refine Blk.drew ?_ | with_reducible refine Blk.alloc ?_ _ | with_reducible refine Blk.set_ ?_ _ _ | refine Blk.far ?_ (by simp; omega) _)
            · have hC := Chg.refl (fun k => k = b) w
              repeat first | with_reducible exact hC | with_reducible refine Chg.drew ?_ | with_reducible refine Chg.drewN ?_ _ | with_reducible refine Chg.alloc ?_ _ | refine Chg.setCell ?_ (by left; rfl) _
            rintro W' ⟨g1, g2⟩
            exact bodyPost_end (v := .tuple #[]) (results_none (by kernel_rfl) _ _ _) rfl ⟨rfl, ⟨g1, fun _ => hR.out, fun _ => ⟨by show 0 ≤ i + 1; omega, by show i + 1 ≤ sh; omega, fun _ => by show i + 1 < sh; have := hie2.out; omega⟩, hsum, by show (0 : Int) ≤ 0 ∧ (0 : Int) ≤ 18446744073709551615; decide, by show (0 : Int) ≤ 0 ∧ (0 : Int) ≤ 3; decide, fun _ => rfl, hkey⟩, g2⟩
end Go.Proofs.YtmlnhjfdhjachaaGreat

/-
  The routine that looks for a key's shelf (layer 23): how it is made; as a routine. No condition.
-/
namespace Go.Proofs.YtmlnhjfdhjachaaGreat
set_option linter.unusedVariables false
open Go.ChangeShapes Go.WideShapes Go.ChangeAt Go.RowKit
open Go.ChangeMaps (setBlock)

def newFind (c : PCfg) (key : ByteArray) : PFind := ⟨c, key, sumP c.seed key, 0, 0, 0, 0, c.right⟩
set_option maxRecDepth 100000 in
set_option maxHeartbeats 8000000 in
theorem findNew_any (c : PCfg) (key : ByteArray) (hkey : key.size ≤ 9223372036854775807) (w : World) : Calls Tryz.prog 60 #[c.val, .string key] w fun e w' => ∃ b, e = .returned (.pointer (some ⟨b, 0, none⟩)) ∧ FindIn w' b (newFind c key) ∧ w.heap.size ≤ b ∧ Below w.heap.size w w' := by
  have hR := fun W => right_cfg c W
  have hSm := fun W => sum_any c.seed key hkey W
  have hso := sumP_ok c.seed key
  have fin : ∀ (W : World) (b : Nat), Blk W b 175 #[.int .i64 c.cap, .int .i64 c.pins, .int .i64 c.shelves, .int .i64 c.queue, .int .i64 c.watchers, .int .u64 c.seed, .string key, .int .u64 (sumP c.seed key), .int .i64 0, .int .u64 0, .int .i64 0, .int .i64 0, .bool c.right] → FindIn W b (newFind c key) := fun W b h =>
    ⟨h, fun hm => (PCfg.right_iff c).1 hm, fun hm => by have := ((PCfg.right_iff c).1 hm).shelves; exact ⟨Int.le_refl _, by show 0 ≤ c.shelves; omega, fun _ => by show 0 < c.shelves; omega⟩, hso, by show (0 : Int) ≤ 0 ∧ (0 : Int) ≤ 18446744073709551615; decide, by show (0 : Int) ≤ 0 ∧ (0 : Int) ≤ 3; decide, fun _ => rfl, hkey⟩
  generalize newFind c key = N at *
  generalize sumP c.seed key = sm at *
  generalize c.right = rt at *
  obtain ⟨a, p, s, q, t, z⟩ := c
  rw [show PCfg.val ⟨a, p, s, q, t, z⟩ = .agg #[.int .i64 a, .int .i64 p, .int .i64 s, .int .i64 q, .int .i64 t, .int .u64 z] from rfl] at *
  simp only at fin hSm
  have B1 := Blk.new w 24 #[.int .i64 a, .int .i64 p, .int .i64 s, .int .i64 q, .int .i64 t, .int .u64 z]
  have hz : Below w.heap.size w (w.alloc (.cells #[.int .i64 a, .int .i64 p, .int .i64 s, .int .i64 q, .int .i64 t, .int .u64 z] 24)) := (Below.refl _ _).alloc (Nat.le_refl _) _
  replace B1 := Lib.hid B1
  replace hz := Lib.hid hz
  replace hR := Lib.hid hR
  replace hSm := Lib.hid hSm
  replace fin := Lib.hid fin
  replace hso := Lib.hid hso
  go_enter Tryz.func60, Tryz.ntmps60
  go_wp2_with fail
  go_region_with (first | (go_at_call 88; refine (hSm.out _).mono ?_; rintro e w1 ⟨rfl, rfl⟩) | (go_at_call 15; refine (hR.out _).mono ?_; rintro e w2 ⟨rfl, hb⟩; have B2 : Blk w2 w.heap.size 24 #[.int .i64 a, .int .i64 p, .int .i64 s, .int .i64 q, .int .i64 t, .int .u64 z] := (by first | exact (B1.out.drewN _).below hb (B1.out.drewN _).lt | exact (B1.out.drew).below hb B1.out.drew.lt | exact B1.out.below hb B1.out.lt); have d0 := B2.cell 0; have d1 := B2.cell 1; have d2 := B2.cell 2; have d3 := B2.cell 3; have d4 := B2.cell 4; have d5 := B2.cell 5; have hb' : Below w.heap.size w w2 := Below.next_ (by first | exact hz.out | exact hz.out.drew | exact below_drewN hz.out _ | exact (below_drewN hz.out _).drew) hb; replace B2 := Lib.hid B2; replace hb' := Lib.hid hb'; clear hb))
  all_goals
    go_wp2
    go_ret
    refine ⟨w2.heap.size, by simp [Act.put], fin.out _ _ (Blk.new w2 _ _), ?_, ?_⟩
    · have := hb'.out.size; omega
    · exact hb'.out.alloc hb'.out.size _
theorem findAct_ok {w : World} {b : Nat} {s : PFind} (h : FindIn w b s) : (s.act).1.Ok := by
  have k0 : (-9223372036854775808 : Int) ≤ 0 ∧ (0 : Int) ≤ 9223372036854775807 := by decide
  have k1 : (-9223372036854775808 : Int) ≤ 1 ∧ (1 : Int) ≤ 9223372036854775807 := by decide
  have k6 : (-9223372036854775808 : Int) ≤ 6 ∧ (6 : Int) ≤ 9223372036854775807 := by decide
  have z : (0 : Int) ≤ 0 ∧ (0 : Int) ≤ 18446744073709551615 := by decide
  have z1 : (0 : Int) ≤ 1 ∧ (1 : Int) ≤ 18446744073709551615 := by decide
  have hE : ByteArray.empty.size ≤ 9223372036854775807 := by decide
  have hI : s.idle = (!s.made || s.kind != 0) := rfl
  unfold PFind.act
  cases hid : s.idle with
  | true => exact ⟨k0, z, k0, z, z, hE⟩
  | false =>
    have hm : s.made = true := by
      rw [hid] at hI
      cases hm : s.made with
      | false => rw [hm] at hI; cases hI
      | true => rfl
    have hR := h.right hm
    have h1 := hR.pins
    have h2 := hR.cap
    have h3 := hR.shelves
    have h4 := placeP_ok s.sum s.cfg.shelves s.i h3.1
    simp only [Bool.false_eq_true, if_false]
    split
    · exact ⟨k6, h.block, k0, z, z, hE⟩
    · refine ⟨k1, z1, ?_, z, z, hE⟩
      show -9223372036854775808 ≤ 3 + s.cfg.pins + s.cfg.cap + 2 * s.place ∧ 3 + s.cfg.pins + s.cfg.cap + 2 * s.place ≤ 9223372036854775807
      have h5 : 0 ≤ s.place ∧ s.place < s.cfg.shelves := h4
      omega
end Go.Proofs.YtmlnhjfdhjachaaGreat

/-
  The tape by which the references say what a routine does next. No condition.
-/
namespace Go.Proofs.YtmlnhjfdhjachaaGreat
set_option linter.unusedVariables false
open Go.ChangeShapes Go.WideShapes Go.ChangeAt Go.RowKit
open Go.ChangeMaps (setBlock)

/-- A tape: the answers, how many were taken, whether it is over, and the act that is next. -/
structure PTape where
  got : List PGot
  at_ : Nat
  over : Bool
  act : PAct
/-- An act on a tape: its answer, and the tape behind it. -/
def PTape.doAct (T : PTape) (x : PAct) : PGot × PTape :=
  if T.over then (noGot, T)
  else match T.got[T.at_]? with
    | none => (noGot, { T with over := true, act := x })
    | some g => (g, { T with at_ := T.at_ + 1 })
/-- Answers, as cells. -/
def gotL (l : List PGot) : List Value := (l.map fun g => [Value.int .u64 g.word, .string g.text]).flatten
def PTape.cells (T : PTape) (A : Option Addr) (c : Nat) : Array Value := #[.slice A T.got.length c, .int .i64 (T.at_ : Nat), .bool T.over, .int .i64 T.act.kind, .int .u64 T.act.block, .int .i64 T.act.cell, .int .u64 T.act.old, .int .u64 T.act.new, .string T.act.text]
/-- The tape T stands at tb; its answers lie elsewhere, at A. -/
structure TapeIn (w : World) (tb : Nat) (A : Option Addr) (c : Nat) (T : PTape) : Prop where
  blk : Blk w tb 47 (T.cells A c)
  got : Reads w tb 2 A T.got.length (gotL T.got)
  len : T.got.length ≤ 1000000
  at_ : T.at_ ≤ T.got.length
theorem TapeIn.below {w w' : World} {tb c : Nat} {A : Option Addr} {T : PTape} (h : TapeIn w tb A c T) (hb : Below w.heap.size w w') : TapeIn w' tb A c T :=
  ⟨h.blk.below hb h.blk.lt, h.got.keep fun p hp => hb.cell (p := p) (by have := h.blk.lt; omega), h.len, h.at_⟩
end Go.Proofs.YtmlnhjfdhjachaaGreat

/-
  The tape's acts by name; the document's version (layer 22) on a tape. No condition.
-/
namespace Go.Proofs.YtmlnhjfdhjachaaGreat
set_option linter.unusedVariables false
open Go.ChangeShapes Go.WideShapes Go.ChangeAt Go.RowKit
open Go.ChangeMaps (setBlock)

/-- A change, as a value. -/
structure PChange where
  key : ByteArray
  has : Bool
  value : ByteArray
def PChange.val (c : PChange) : Value := .agg #[.string c.key, .bool c.has, .string c.value]
/-- The document's version. -/
def PTape.version (T : PTape) (epoch next : Int) (c : PChange) : Int × PTape :=
  let m := T.doAct ⟨5, 0, 3, 0, 0, if c.has then c.value else ByteArray.empty⟩
  if m.1.word = 0 then (0, m.2)
  else
    let t1 := (m.2.doAct ⟨2, m.1.word, 0, 0, epoch, ByteArray.empty⟩).2
    let t2 := if next = 0 then t1 else (t1.doAct ⟨2, m.1.word, 1, 0, next, ByteArray.empty⟩).2
    let t3 := if c.has then (t2.doAct ⟨2, m.1.word, 2, 0, 1, ByteArray.empty⟩).2 else t2
    (m.1.word, t3)
end Go.Proofs.YtmlnhjfdhjachaaGreat

/-
  A routine that is answered from a tape, and the document's program on that tape: how both go on side by side. No condition.
-/
namespace Go.Proofs.YtmlnhjfdhjachaaGreat
set_option linter.unusedVariables false
open Go.ChangeShapes Go.WideShapes Go.ChangeAt Go.RowKit
open Go.ChangeMaps (setBlock)

section
variable {σ : Type} (act : σ → PAct × Bool) (take : σ → PGot → σ)
/-- The routine behind some answers. -/
def feed (s0 : σ) (gs : List PGot) : σ := gs.foldl take s0
/-- The tape isn't over, and the routine stands where the tape does. -/
structure Fed (s0 : σ) (Q : List PGot) (T : PTape) (s : σ) : Prop where
  over : T.over = false
  got : T.got = Q
  at_ : T.at_ ≤ Q.length
  act : T.act = noAct
  st : s = feed take s0 (Q.take T.at_)
variable {act take}
/-- Where a routine is done it stays. -/
theorem feed_done {s : σ} (hd : ∀ g, take s g = s) : ∀ Q : List PGot, feed take s Q = s
  | [] => rfl
  | g :: Q => by
    show feed take (take s g) Q = s
    rw [hd g]
    exact feed_done hd Q
theorem Fed.done {s0 s : σ} {Q : List PGot} {T : PTape} (h : Fed take s0 Q T s) (hd : ∀ g, take s g = s) : feed take s0 Q = s := by
  have e : feed take s0 Q = feed take (feed take s0 (Q.take T.at_)) (Q.drop T.at_) := by
    conv => lhs; rw [← List.take_append_drop T.at_ Q]
    exact List.foldl_append
  rw [e, ← h.st]
  exact feed_done hd _
theorem Fed.start (s0 : σ) (Q : List PGot) (T : PTape) (h1 : T.over = false) (h2 : T.at_ = 0) (h3 : T.act = noAct) (h4 : T.got = Q) : Fed take s0 Q T s0 :=
  ⟨h1, h4, by omega, h3, by rw [h2]; rfl⟩
end
end Go.Proofs.YtmlnhjfdhjachaaGreat

/-
  More of the tape's acts by name. No condition.
-/
namespace Go.Proofs.YtmlnhjfdhjachaaGreat
set_option linter.unusedVariables false
open Go.ChangeShapes Go.WideShapes Go.ChangeAt Go.RowKit
open Go.ChangeMaps (setBlock)

end Go.Proofs.YtmlnhjfdhjachaaGreat
