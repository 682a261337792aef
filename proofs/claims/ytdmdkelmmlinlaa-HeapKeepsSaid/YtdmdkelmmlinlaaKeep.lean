/-
  The walk over the law of heaps that keep (layer 17). No condition.
-/
import Derived.Test.YtdmdkelmmlinlaaKeepP
import Derived.Test.YtdmdkelmmlinlaaLocks
import Derived.Test.YtdmdkelmmlinlaaAct
import Derived.BigQuiet
namespace Go.Proofs.Ytdmdkelmmlinlaa
set_option linter.unusedVariables false
open Go.ChangeShapes Go.WideShapes Go.ChangeAt Go.RowKit
open Go.ChangeMaps (setBlock)

def opL (l : List PAct) : List Value := l.flatMap fun x => [.int .i64 x.kind, .int .u64 x.block, .int .i64 x.cell, .int .u64 x.old, .int .u64 x.new, .string x.text]
theorem op_at {w : World} {B n : Nat} {A : Option Addr} {l : List PAct} (h : Reads w B 6 A n (opL l)) (hn : l.length = n) {k : Nat} (hk : k < n) :
    ∃ ad x, A = some ad ∧ ad.block < B ∧ l[k]? = some x ∧ w.cell? ⟨(ad.add (k * 6)).block, (ad.add (k * 6)).off + 1, none⟩ = some (.int .u64 x.block) ∧ w.cell? ⟨(ad.add (k * 6)).block, (ad.add (k * 6)).off + 2, none⟩ = some (.int .i64 x.cell) ∧
      w.cell? ⟨(ad.add (k * 6)).block, (ad.add (k * 6)).off + 3, none⟩ = some (.int .u64 x.old) ∧ w.cell? ⟨(ad.add (k * 6)).block, (ad.add (k * 6)).off + 4, none⟩ = some (.int .u64 x.new) ∧ w.cell? ⟨(ad.add (k * 6)).block, (ad.add (k * 6)).off + 5, none⟩ = some (.string x.text) := by
  obtain ⟨ad, x, e, hb, hx, hc⟩ := Reads.fld (mk := fun x : PAct => [.int .i64 x.kind, .int .u64 x.block, .int .i64 x.cell, .int .u64 x.old, .int .u64 x.new, .string x.text]) (fun _ => rfl) h hk hn
  have g : ∀ j v, [.int .i64 x.kind, .int .u64 x.block, .int .i64 x.cell, .int .u64 x.old, .int .u64 x.new, .string x.text][j]? = some v → 0 < j → w.cell? ⟨(ad.add (k * 6)).block, (ad.add (k * 6)).off + j, none⟩ = some v := by
    intro j v hv hj
    have e1 : (⟨(ad.add (k * 6)).block, (ad.add (k * 6)).off + j, none⟩ : Addr) = (ad.add (k * 6)).add j := by
      cases j with
      | zero => omega
      | succ j => rfl
    rw [e1, add_of_add]
    exact hc j v hv
  exact ⟨ad, x, e, hb, hx, g 1 _ rfl (by omega), g 2 _ rfl (by omega), g 3 _ rfl (by omega), g 4 _ rfl (by omega), g 5 _ rfl (by omega)⟩
set_option maxRecDepth 100000 in
set_option maxHeartbeats 1000000 in
theorem few_any (A : Option Addr) (len cap : Nat) (l : List PAct) (hlen : l.length = len) (hmax : len ≤ maxLen) (most : Int) (w : World) (hr : Reads w w.heap.size 6 A len (opL l)) :
    Calls Try.prog 18 #[.slice A len cap, .int .i64 most] w fun e w' => ∃ fb : Bool, e = .returned (.bool fb) ∧ (fb = true → (len : Int) ≤ most) ∧ w = w' := by
  have hmax' : len ≤ 9223372036854775807 := by unfold maxLen at hmax; omega
  have done : ∀ e : Ending, ∀ w', e = .returned (.bool (decide ((len : Int) ≤ most))) → w = w' → ∃ fb : Bool, e = .returned (.bool fb) ∧ (fb = true → (len : Int) ≤ most) ∧ w = w' := fun e w' h1 h2 => ⟨_, h1, fun h => of_decide_eq_true h, h2⟩
  replace done := Lib.hid done
  go_enter Try.func18, Try.ntmps18
  go_wp2_with fail
  go_loopw [5] (fun i wr => wr = w ∧ ∃ k : Nat, k ≤ len ∧ i = .int .i64 k) (fun i _ => len + 1 - (intOf i).toNat)
  case atStart => exact ⟨rfl, 0, by omega, rfl⟩
  case round =>
    obtain ⟨rfl, k, hk, rfl⟩ := hrel
    by_cases hlt : k < len
    · have d1 : decide ((k : Int) < (len : Int)) = true := by simp; omega
      by_cases h200 : k < 200
      · have d2 : decide ((k : Int) < 200) = true := by simp; omega
        obtain ⟨ad, x, rfl, hb, hx, _, _, _, _, c5⟩ := op_at hr hlen hlt
        have i1 : (0 : Int) ≤ (k : Int) := by omega
        have i2 : (k : Int) < (len : Int) := by omega
        by_cases hs : 100 < x.text.size
        · have d3 : decide ((100 : Int) < (x.text.size : Int)) = true := by simp; omega
          go_wp2_with fail
          go_ret
          exact ⟨false, rfl, (fun h => by cases h), rfl⟩
        · have d3 : decide ((100 : Int) < (x.text.size : Int)) = false := by simp; omega
          go_wp2_with fail
          go_roundw
          case rel => exact ⟨trivial, k + 1, by omega, by go_num⟩
          case measure => simp [intOf]; omega
      · have d2 : decide ((k : Int) < 200) = false := by simp; omega
        go_wp2_with fail
        go_ret
        exact done.out _ _ rfl rfl
    · have d1 : decide ((k : Int) < (len : Int)) = false := by simp; omega
      go_wp2_with fail
      go_ret
      exact done.out _ _ rfl rfl
def keyL (k : Nat) : List Value := (List.range k).map fun j => .int .u64 (((j : Nat) : Int) + 1)
theorem keyL_len (k : Nat) : (keyL k).length = k := by simp [keyL]
theorem keyL_snoc (k : Nat) : keyL k ++ [.int .u64 ((k : Int) + 1)] = keyL (k + 1) := by simp [keyL, List.range_succ]
theorem keyL_at {k j : Nat} (h : j < k) : (keyL k)[j]? = some (.int .u64 ((j : Int) + 1)) := by simp [keyL, h]
def textAt (strs : List ByteArray) (j : Nat) : ByteArray := match strs[j]? with
  | some s => if s.size ≤ 50 then s else ByteArray.empty
  | none => ByteArray.empty
/-- The heap and the row of its blocks' numbers. -/
structure KIn (w : World) (hb : Nat) (S : PHeap) (F : Nat → Prop) (v : Value) (m : Nat) (wr : World) : Prop where
  heap : HeapIn wr hb S F
  new : ∀ k, F k → w.heap.size ≤ k
  row : wr.ownsRow w.heap.size 34 1 v m (keyL m)
  off : ∀ g, v.ownBlock = some g → ¬ F g
  below : Below w.heap.size w wr
theorem KIn.turned {w wr w' : World} {hb : Nat} {S S' : PHeap} {F : Nat → Prop} {v : Value} {m : Nat} (h : KIn w hb S F v m wr) (t : Turned F hb S' wr w') : KIn w hb S' (nw F wr w') v m w' := by
  refine ⟨t.1, fun k hk => ?_, ?_, fun g hg hk => ?_, h.below.trans (t.2.below h.new h.below.size)⟩
  · rcases hk with hk | hk
    · exact h.new k hk
    · exact Nat.le_trans h.below.size hk.1
  · refine ⟨h.row.1, h.row.2.imp id fun ⟨g, cap, cur, e1, e2, e3, r⟩ => ⟨g, cap, cur, e1, e2, (t.2.block g (Array.getElem?_eq_some_iff.1 e3).1 (h.off g (by rw [e1]; rfl))).trans e3, r⟩⟩
  · rcases hk with hk | hk
    · exact h.off g hg hk
    · have := (World.ownsRow.lt h.row g hg).2
      omega
theorem KIn.stay {w wr w' : World} {hb : Nat} {S : PHeap} {F : Nat → Prop} {v : Value} {m : Nat} (h : KIn w hb S F v m wr) (hb' : Below wr.heap.size wr w') : KIn w hb S F v m w' :=
  ⟨h.heap.below hb', h.new, ⟨h.row.1, h.row.2.imp id fun ⟨g, cap, cur, e1, e2, e3, r⟩ => ⟨g, cap, cur, e1, e2, (hb'.block g (Array.getElem?_eq_some_iff.1 e3).1).trans e3, r⟩⟩, h.off, Below.next_ h.below hb'⟩
theorem KIn.cell_ {w wr : World} {hb : Nat} {S : PHeap} {F : Nat → Prop} {g c m j : Nat} (h : KIn w hb S F (.slice (some ⟨g, 0, none⟩) m c) m wr) (hj : j < m) : wr.cell? ⟨g, j, none⟩ = some (.int .u64 ((j : Int) + 1)) := by
  have := h.row.cells (g := g) rfl j _ (keyL_at hj)
  have e2 : (⟨g, 0, none⟩ : Addr).add j = ⟨g, j, none⟩ := by unfold Addr.add; split <;> simp_all
  rw [e2] at this
  exact this
theorem keepo {B : Nat} {w w' : World} {ad : Addr} {n o : Nat} {v : Value} (h : Below B w w') (hb : ad.block < B) (hc : w.cell? ⟨(ad.add n).block, o, none⟩ = some v) : w'.cell? ⟨(ad.add n).block, o, none⟩ = some v :=
  (h.cell (p := ⟨(ad.add n).block, o, none⟩) (by show (ad.add n).block < B; rw [block_of_add]; exact hb)).trans hc
theorem KIn.at_ {w wr : World} {hb : Nat} {S : PHeap} {F : Nat → Prop} {v : Value} {m j : Nat} (h : KIn w hb S F v m wr) (hj : j < m) : ∃ g cap, v = .slice (some ⟨g, 0, none⟩) m cap ∧ wr.cell? ⟨g, j, none⟩ = some (.int .u64 ((j : Int) + 1)) := by
  obtain ⟨g, cap, e, h1, h2⟩ := h.row.form (by omega)
  have := h.row.cells (g := g) (by rw [e]; rfl) j _ (keyL_at hj)
  have e2 : (⟨g, 0, none⟩ : Addr).add j = ⟨g, j, none⟩ := by unfold Addr.add; split <;> simp_all
  rw [e2] at this
  exact ⟨g, cap, e, this⟩
theorem KIn.grown {w wr w' : World} {hb : Nat} {S : PHeap} {F : Nat → Prop} {v v' : Value} {m : Nat} (h : KIn w hb S F v m wr) (hown : w'.ownsRow w.heap.size 34 1 v' (m + 1) (keyL (m + 1))) (hg : wr.grownBy w' v.ownBlock)
    (hloc : v'.ownBlock = v.ownBlock ∨ v'.ownBlock = some wr.heap.size) : KIn w hb S F v' (m + 1) w' := by
  have hlt := h.heap.own
  refine ⟨h.heap.keep hg.size fun k hk => hg.block k (hlt k hk) fun e => h.off k e.symm hk, h.new, hown, fun g hg' hk => ?_, ?_⟩
  · rcases hloc with e | e
    · rw [e] at hg'
      exact h.off g hg' hk
    · rw [e] at hg'
      injection hg' with hg'
      have := hlt g hk
      omega
  · refine ⟨hg.os.trans h.below.os, hg.tape.trans h.below.tape, hg.output.trans h.below.output, Nat.le_trans h.below.size hg.size, fun k hk => (hg.block k (Nat.lt_of_lt_of_le hk h.below.size) fun e => ?_).trans (h.below.block k hk)⟩
    have := (World.ownsRow.lt h.row k e.symm).1
    omega
theorem own_slice {w : World} {base : Nat} {e : TypeId} {size n : Nat} {v : Value} {xs : List Value} (h : w.ownsRow base e size v n xs) : ∃ A c, v = .slice A n c := by
  rcases h.2 with ⟨rfl, rfl⟩ | ⟨g, cap, cur, rfl, _⟩
  · exact ⟨_, _, rfl⟩
  · exact ⟨_, _, rfl⟩
theorem reads_one (w : World) (t : TypeId) (x : Value) : Reads (w.alloc (.cells #[x] t)) (w.heap.size + 1) 1 (some ⟨w.heap.size, 0, none⟩) 1 [x] := by
  refine ⟨rfl, fun _ => ⟨_, rfl, Nat.lt_succ_self _, fun j u hu => ?_⟩⟩
  cases j with
  | zero => exact ((Blk.new w t #[x]).cell 0).trans hu
  | succ j => simp at hu
/-- Between two rounds of the first loop. -/
structure K1 (w : World) (hb len : Nat) (ns : List Int) (ts : Nat → ByteArray) (v i : Value) (wr : World) : Prop where
  ex : ∃ (k : Nat) (S : PHeap) (F : Nat → Prop), k ≤ len ∧ i = .int .i64 k ∧ Kept S (ns.take k) ts ∧ KIn w hb S F v k wr
structure K3 (w : World) (hb len : Nat) (ns : List Int) (ts : Nat → ByteArray) (v : Value) (m : Nat) (i : Value) (wr : World) : Prop where
  ex : ∃ (k : Nat) (S : PHeap) (F : Nat → Prop), k ≤ len ∧ i = .int .i64 k ∧ Kept S ns ts ∧ KIn w hb S F v m wr
structure K4 (w : World) (hb : Nat) (v : Value) (m : Nat) (i : Value) (wr : World) : Prop where
  ex : ∃ (k : Nat) (S : PHeap) (F : Nat → Prop), k ≤ m ∧ i = .int .i64 k ∧ Fewer S k m ∧ KIn w hb S F v m wr
set_option maxRecDepth 100000 in
set_option maxHeartbeats 40000000 in
theorem walkKeeps (A0 A1 A2 : Option Addr) (len0 len1 len2 cap0 cap1 cap2 : Nat) (ns : List Int) (strs : List ByteArray) (l : List PAct) (h0 : ns.length = len0) (h1 : strs.length = len1) (h2 : l.length = len2)
    (hns : ∀ n ∈ ns, 0 ≤ n ∧ n ≤ 255) (hl : ∀ x ∈ l, x.Ok) (m0 : len0 ≤ maxLen) (m1 : len1 ≤ maxLen) (m2 : len2 ≤ maxLen) (w : World)
    (r0 : Reads w w.heap.size 1 A0 len0 (ns.map (Value.int .u8))) (r1 : Reads w w.heap.size 1 A1 len1 (strs.map Value.string)) (r2 : Reads w w.heap.size 6 A2 len2 (opL l)) :
    Calls Try.prog 4 #[.slice A0 len0 cap0, .slice A1 len1 cap1, .slice A2 len2 cap2] w fun e w' => e = .returned (.bool true) ∧ Below w.heap.size w w' := by
  obtain ⟨i0, hi, hz0, hz1, hz2⟩ : ∃ i, Try.prog.info? 34 = some i ∧ i.zero = some (.int .u64 0) ∧ i.size = 1 ∧ i.bytes = 8 := ⟨_, rfl, rfl, rfl, rfl⟩
  replace m0 : len0 ≤ 9223372036854775807 := by unfold maxLen at m0; omega
  replace m1 : len1 ≤ 9223372036854775807 := by unfold maxLen at m1; omega
  have hfew := few_any A2 len2 cap2 l h2 m2 60 w r2
  replace m2 : len2 ≤ 9223372036854775807 := by unfold maxLen at m2; omega
  by_cases hbig : 12 < len0
  · have d1 : decide ((12 : Int) < (len0 : Int)) = true := by simp; omega
    go_enter Try.func4, Try.ntmps4
    go_wp2_with fail
    refine (awake17 _).mono ?_; rintro e w7 ⟨rfl, hb7⟩
    go_wp2_with fail
    go_ret
    exact ⟨rfl, hb7⟩
  have d1 : decide ((12 : Int) < (len0 : Int)) = false := by simp; omega
  replace hfew := Lib.hid hfew
  go_enter Try.func4, Try.ntmps4
  go_wp2_with fail
  refine (hfew.out).mono ?_; rintro e w1 ⟨fb, rfl, hfb, rfl⟩
  cases fb with
  | false =>
    go_wp2_with fail
    refine (awake17 _).mono ?_; rintro e w7 ⟨rfl, hb7⟩
    go_wp2_with fail
    go_ret
    exact ⟨rfl, hb7⟩
  | true =>
  have hl2 : len2 ≤ 60 := by have := hfb rfl; omega
  go_wp2_with fail
  refine (new_any _).mono ?_; rintro e w1 ⟨hb, rfl, hbge, hH, hB1, _⟩
  go_wp2_with fail
  go_loopw [8, 9] (fun v i wr => K1 w hb len0 ns (textAt strs) v i wr) (fun _ i _ => len0 + 1 - (intOf i).toNat)
  case atStart =>
    have hB2 : Below w1.heap.size w1 (w1.alloc (.cells #[] 34)) := (Below.refl _ _).alloc (Nat.le_refl _) _
    refine ⟨0, _, _, Nat.zero_le _, rfl, Kept.start _, hH.below hB2, fun k hk => ?_, ⟨rfl, .inr ⟨w1.heap.size, 0, #[], rfl, hB1.size, Blk.new w1 34 #[], Nat.le_refl _, Nat.zero_le _, rfl, rfl⟩⟩, fun g hg hF => ?_, Below.next_ hB1 hB2⟩
    · rcases hk with hk | hk
      · exact hk.elim
      · exact hk.1
    · have e : w1.heap.size = g := by simpa [Value.ownBlock] using hg
      rcases hF with hF | hF
      · exact hF.elim
      · omega
  case round =>
    obtain ⟨⟨k, S, F, hk, rfl, hK, hI⟩⟩ := hrel
    by_cases hlt : k < len0
    · have d2 : decide ((k : Int) < (len0 : Int)) = true := by simp; omega
      obtain ⟨ad0, z0, rfl, hb0, hz, hc00⟩ := r0.at_ hlt
      obtain ⟨n, hn1, rfl⟩ : ∃ n, ns[k]? = some n ∧ Value.int .u8 n = z0 := by simpa using hz
      have hn2 := hns n (List.mem_of_getElem? hn1)
      obtain ⟨n, rfl⟩ := Int.eq_ofNat_of_zero_le hn2.1
      have hc0 := keepc hI.below hb0 hc00
      have hlk : (ns.take k).length = k := by simp; omega
      have hla : S.last = (k : Int) := by have := hK.last; rw [hlk] at this; exact this
      obtain ⟨A, c, rfl⟩ := own_slice hI.row
      have i1 : (0 : Int) ≤ (k : Int) := by omega
      have i2 : (k : Int) < (len0 : Int) := by omega
      clear hz
      replace hc00 := Lib.hid hc00
      by_cases hk1 : k < len1
      · have d3 : decide ((k : Int) < (len1 : Int)) = true := by simp; omega
        obtain ⟨ad1, z1, rfl, hb1, hz, hc1⟩ := r1.at_ hk1
        obtain ⟨s, hs1, rfl⟩ : ∃ s, strs[k]? = some s ∧ Value.string s = z1 := by simpa using hz
        have hc1 := keepc hI.below hb1 hc1
        clear hz
        have i3 : (k : Int) < (len1 : Int) := by omega
        by_cases hs : s.size ≤ 50
        · have d4 : decide ((s.size : Int) ≤ 50) = true := by simp; omega
          have hT : s = textAt strs k := by simp [textAt, hs1, hs]
          replace hT := Lib.hid hT
          go_wp2_with fail
          refine (make_any hI.heap n (by omega) s (by have := hla; omega)).mono ?_; rintro e w2 ⟨rfl, r, t1⟩
          obtain ⟨S2, hK2, hI2⟩ : ∃ S2, Kept S2 (ns.take (k + 1)) (textAt strs) ∧ KIn w hb S2 (nw F wr w2) (.slice A k c) k w2 := by
            have e : ns.take (k + 1) = ns.take k ++ [(n : Int)] := by rw [List.take_add_one, hn1]; rfl
            rw [e]
            exact ⟨_, hK.more r n _ (by rw [hlk]; exact hT.out), hI.turned t1⟩
          have hla2 : S.last + 1 = (k : Int) + 1 := by omega
          rw [hla2]
          clear t1
          have hZ : ∀ W, Below w2.heap.size w2 W → Calls Try.prog 20 #[.pointer (some ⟨hb, 0, none⟩), .int .u64 ((k : Int) + 1)] W fun e w' => e = .returned (.int .i64 (n : Int)) ∧ W = w' := by
            intro W hW
            obtain ⟨x, hx, hxl, _⟩ := hK2.find (j := k) (n := (n : Int)) (by rw [List.getElem?_take, if_pos (by omega)]; exact hn1)
            have := size_any (hI2.heap.below hW) ((k : Int) + 1)
            rw [hx] at this
            simpa [hxl] using this
          have hc2 := hI2.below
          have d9 : (((k : Int) + 1) == 0) = false := by rw [beq_eq_false_iff_ne]; omega
          replace hZ := Lib.hid hZ
          replace hI := Lib.hid hI
          replace hI2 := Lib.hid hI2
          replace hK := Lib.hid hK
          replace hK2 := Lib.hid hK2
          have hc0 := keepc hc2 hb0 hc00.out
          go_wp2_with fail
          go_quiet ((go_at_call 20; exact Calls.quiet_of_same ((hZ.out _ (by first | exact Below.refl _ _ | exact (Below.refl _ _).drew | exact below_drewN (Below.refl _ _) _)).mono fun _ _ hp => ⟨hp.1, hp.2.symm⟩)))
          go_wp2_with fail
          go_loopw [12] (fun j wq => Below w2.heap.size w2 wq ∧ ∃ k2 : Nat, k2 ≤ k ∧ j = .int .i64 k2) (fun j _ => k + 1 - (intOf j).toNat)
          case atStart => exact ⟨by first | exact Below.refl _ _ | exact (Below.refl _ _).drew | exact below_drewN (Below.refl _ _) _, 0, Nat.zero_le _, rfl⟩
          case round =>
            obtain ⟨hbq, k2, hk2, rfl⟩ := hrel
            by_cases hlt2 : k2 < k
            · have d10 : decide ((k2 : Int) < (k : Int)) = true := by simp; omega
              have i5 : (0 : Int) ≤ (k2 : Int) := by omega
              have i6 : (k2 : Int) < (k : Int) := by omega
              obtain ⟨g, cap', hA, hgc⟩ := (hI2.out.stay hbq).at_ hlt2
              obtain ⟨rfl, rfl⟩ : A = some ⟨g, 0, none⟩ ∧ c = cap' := by injection hA with h1 h2 h3; exact ⟨h1, h3⟩
              have d11 : (((k2 : Int) + 1) == ((k : Int) + 1)) = false := by rw [beq_eq_false_iff_ne]; omega
              go_wp2_with fail
              go_roundw
              case rel => exact ⟨hbq, k2 + 1, by omega, by go_num⟩
              case measure => simp [intOf]; omega
            · have d10 : decide ((k2 : Int) < (k : Int)) = false := by simp; omega
              have hI3 := hI2.out.stay hbq
              have hI4 := hI3.stay ((Below.refl _ _).alloc (Nat.le_refl _) (.cells #[.int .u64 ((k : Int) + 1)] 34))
              have hrow := hI4.row
              replace hI3 := Lib.hid hI3
              replace hI4 := Lib.hid hI4
              replace hrow := Lib.hid hrow
              go_wp2_with (at_builtin; go_loud (refine wpList_append_any _ rfl _ _ 27 rfl w.heap.size 34 i0 (.int .u64 0) 1 8 Try.underlying27 hi hz0 hz1 hz2 rfl (by decide) _ _ _ rfl hrow.out (wr.heap.size + 1) (some ⟨wr.heap.size, 0, none⟩) 1 1 [.int .u64 ((k : Int) + 1)] rfl (reads_one wr 34 _) (by simp [Value.oneCell']) (by unfold maxLen; omega) (by omega) (by have := hI4.out.below.size; exact this) ?_; intro v' w3 hown3 hgrow hloc; rw [keyL_snoc] at hown3; have hI5 := hI4.out.grown hown3 hgrow hloc; replace hown3 := Lib.hid hown3; replace hgrow := Lib.hid hgrow; replace hloc := Lib.hid hloc; replace hI5 := Lib.hid hI5))
              go_roundw
              case rel => exact ⟨k + 1, S2, _, by omega, by go_num, hK2.out, hI5.out⟩
              case measure => simp [intOf]; omega
        · have d4 : decide ((s.size : Int) ≤ 50) = false := by simp; omega
          have hT : ByteArray.empty = textAt strs k := by simp [textAt, hs1, hs]
          replace hT := Lib.hid hT
          go_wp2_with fail
          refine (make_any hI.heap n (by omega) ByteArray.empty (by have := hla; omega)).mono ?_; rintro e w2 ⟨rfl, r, t1⟩
          obtain ⟨S2, hK2, hI2⟩ : ∃ S2, Kept S2 (ns.take (k + 1)) (textAt strs) ∧ KIn w hb S2 (nw F wr w2) (.slice A k c) k w2 := by
            have e : ns.take (k + 1) = ns.take k ++ [(n : Int)] := by rw [List.take_add_one, hn1]; rfl
            rw [e]
            exact ⟨_, hK.more r n _ (by rw [hlk]; exact hT.out), hI.turned t1⟩
          have hla2 : S.last + 1 = (k : Int) + 1 := by omega
          rw [hla2]
          clear t1
          have hZ : ∀ W, Below w2.heap.size w2 W → Calls Try.prog 20 #[.pointer (some ⟨hb, 0, none⟩), .int .u64 ((k : Int) + 1)] W fun e w' => e = .returned (.int .i64 (n : Int)) ∧ W = w' := by
            intro W hW
            obtain ⟨x, hx, hxl, _⟩ := hK2.find (j := k) (n := (n : Int)) (by rw [List.getElem?_take, if_pos (by omega)]; exact hn1)
            have := size_any (hI2.heap.below hW) ((k : Int) + 1)
            rw [hx] at this
            simpa [hxl] using this
          have hc2 := hI2.below
          have d9 : (((k : Int) + 1) == 0) = false := by rw [beq_eq_false_iff_ne]; omega
          replace hZ := Lib.hid hZ
          replace hI := Lib.hid hI
          replace hI2 := Lib.hid hI2
          replace hK := Lib.hid hK
          replace hK2 := Lib.hid hK2
          have hc0 := keepc hc2 hb0 hc00.out
          go_wp2_with fail
          go_quiet ((go_at_call 20; exact Calls.quiet_of_same ((hZ.out _ (by first | exact Below.refl _ _ | exact (Below.refl _ _).drew | exact below_drewN (Below.refl _ _) _)).mono fun _ _ hp => ⟨hp.1, hp.2.symm⟩)))
          go_wp2_with fail
          go_loopw [12] (fun j wq => Below w2.heap.size w2 wq ∧ ∃ k2 : Nat, k2 ≤ k ∧ j = .int .i64 k2) (fun j _ => k + 1 - (intOf j).toNat)
          case atStart => exact ⟨by first | exact Below.refl _ _ | exact (Below.refl _ _).drew | exact below_drewN (Below.refl _ _) _, 0, Nat.zero_le _, rfl⟩
          case round =>
            obtain ⟨hbq, k2, hk2, rfl⟩ := hrel
            by_cases hlt2 : k2 < k
            · have d10 : decide ((k2 : Int) < (k : Int)) = true := by simp; omega
              have i5 : (0 : Int) ≤ (k2 : Int) := by omega
              have i6 : (k2 : Int) < (k : Int) := by omega
              obtain ⟨g, cap', hA, hgc⟩ := (hI2.out.stay hbq).at_ hlt2
              obtain ⟨rfl, rfl⟩ : A = some ⟨g, 0, none⟩ ∧ c = cap' := by injection hA with h1 h2 h3; exact ⟨h1, h3⟩
              have d11 : (((k2 : Int) + 1) == ((k : Int) + 1)) = false := by rw [beq_eq_false_iff_ne]; omega
              go_wp2_with fail
              go_roundw
              case rel => exact ⟨hbq, k2 + 1, by omega, by go_num⟩
              case measure => simp [intOf]; omega
            · have d10 : decide ((k2 : Int) < (k : Int)) = false := by simp; omega
              have hI3 := hI2.out.stay hbq
              have hI4 := hI3.stay ((Below.refl _ _).alloc (Nat.le_refl _) (.cells #[.int .u64 ((k : Int) + 1)] 34))
              have hrow := hI4.row
              replace hI3 := Lib.hid hI3
              replace hI4 := Lib.hid hI4
              replace hrow := Lib.hid hrow
              go_wp2_with (at_builtin; go_loud (refine wpList_append_any _ rfl _ _ 27 rfl w.heap.size 34 i0 (.int .u64 0) 1 8 Try.underlying27 hi hz0 hz1 hz2 rfl (by decide) _ _ _ rfl hrow.out (wr.heap.size + 1) (some ⟨wr.heap.size, 0, none⟩) 1 1 [.int .u64 ((k : Int) + 1)] rfl (reads_one wr 34 _) (by simp [Value.oneCell']) (by unfold maxLen; omega) (by omega) (by have := hI4.out.below.size; exact this) ?_; intro v' w3 hown3 hgrow hloc; rw [keyL_snoc] at hown3; have hI5 := hI4.out.grown hown3 hgrow hloc; replace hown3 := Lib.hid hown3; replace hgrow := Lib.hid hgrow; replace hloc := Lib.hid hloc; replace hI5 := Lib.hid hI5))
              go_roundw
              case rel => exact ⟨k + 1, S2, _, by omega, by go_num, hK2.out, hI5.out⟩
              case measure => simp [intOf]; omega
      · have d3 : decide ((k : Int) < (len1 : Int)) = false := by simp; omega
        have hT : ByteArray.empty = textAt strs k := by
          have : strs[k]? = none := List.getElem?_eq_none (by omega)
          simp [textAt, this]
        replace hT := Lib.hid hT
        go_wp2_with fail
        refine (make_any hI.heap n (by omega) ByteArray.empty (by have := hla; omega)).mono ?_; rintro e w2 ⟨rfl, r, t1⟩
        obtain ⟨S2, hK2, hI2⟩ : ∃ S2, Kept S2 (ns.take (k + 1)) (textAt strs) ∧ KIn w hb S2 (nw F wr w2) (.slice A k c) k w2 := by
          have e : ns.take (k + 1) = ns.take k ++ [(n : Int)] := by rw [List.take_add_one, hn1]; rfl
          rw [e]
          exact ⟨_, hK.more r n _ (by rw [hlk]; exact hT.out), hI.turned t1⟩
        have hla2 : S.last + 1 = (k : Int) + 1 := by omega
        rw [hla2]
        clear t1
        have hZ : ∀ W, Below w2.heap.size w2 W → Calls Try.prog 20 #[.pointer (some ⟨hb, 0, none⟩), .int .u64 ((k : Int) + 1)] W fun e w' => e = .returned (.int .i64 (n : Int)) ∧ W = w' := by
          intro W hW
          obtain ⟨x, hx, hxl, _⟩ := hK2.find (j := k) (n := (n : Int)) (by rw [List.getElem?_take, if_pos (by omega)]; exact hn1)
          have := size_any (hI2.heap.below hW) ((k : Int) + 1)
          rw [hx] at this
          simpa [hxl] using this
        have hc2 := hI2.below
        have d9 : (((k : Int) + 1) == 0) = false := by rw [beq_eq_false_iff_ne]; omega
        replace hZ := Lib.hid hZ
        replace hI := Lib.hid hI
        replace hI2 := Lib.hid hI2
        replace hK := Lib.hid hK
        replace hK2 := Lib.hid hK2
        have hc0 := keepc hc2 hb0 hc00.out
        go_wp2_with fail
        go_quiet ((go_at_call 20; exact Calls.quiet_of_same ((hZ.out _ (by first | exact Below.refl _ _ | exact (Below.refl _ _).drew | exact below_drewN (Below.refl _ _) _)).mono fun _ _ hp => ⟨hp.1, hp.2.symm⟩)))
        go_wp2_with fail
        go_loopw [12] (fun j wq => Below w2.heap.size w2 wq ∧ ∃ k2 : Nat, k2 ≤ k ∧ j = .int .i64 k2) (fun j _ => k + 1 - (intOf j).toNat)
        case atStart => exact ⟨by first | exact Below.refl _ _ | exact (Below.refl _ _).drew | exact below_drewN (Below.refl _ _) _, 0, Nat.zero_le _, rfl⟩
        case round =>
          obtain ⟨hbq, k2, hk2, rfl⟩ := hrel
          by_cases hlt2 : k2 < k
          · have d10 : decide ((k2 : Int) < (k : Int)) = true := by simp; omega
            have i5 : (0 : Int) ≤ (k2 : Int) := by omega
            have i6 : (k2 : Int) < (k : Int) := by omega
            obtain ⟨g, cap', hA, hgc⟩ := (hI2.out.stay hbq).at_ hlt2
            obtain ⟨rfl, rfl⟩ : A = some ⟨g, 0, none⟩ ∧ c = cap' := by injection hA with h1 h2 h3; exact ⟨h1, h3⟩
            have d11 : (((k2 : Int) + 1) == ((k : Int) + 1)) = false := by rw [beq_eq_false_iff_ne]; omega
            go_wp2_with fail
            go_roundw
            case rel => exact ⟨hbq, k2 + 1, by omega, by go_num⟩
            case measure => simp [intOf]; omega
          · have d10 : decide ((k2 : Int) < (k : Int)) = false := by simp; omega
            have hI3 := hI2.out.stay hbq
            have hI4 := hI3.stay ((Below.refl _ _).alloc (Nat.le_refl _) (.cells #[.int .u64 ((k : Int) + 1)] 34))
            have hrow := hI4.row
            replace hI3 := Lib.hid hI3
            replace hI4 := Lib.hid hI4
            replace hrow := Lib.hid hrow
            go_wp2_with (at_builtin; go_loud (refine wpList_append_any _ rfl _ _ 27 rfl w.heap.size 34 i0 (.int .u64 0) 1 8 Try.underlying27 hi hz0 hz1 hz2 rfl (by decide) _ _ _ rfl hrow.out (wr.heap.size + 1) (some ⟨wr.heap.size, 0, none⟩) 1 1 [.int .u64 ((k : Int) + 1)] rfl (reads_one wr 34 _) (by simp [Value.oneCell']) (by unfold maxLen; omega) (by omega) (by have := hI4.out.below.size; exact this) ?_; intro v' w3 hown3 hgrow hloc; rw [keyL_snoc] at hown3; have hI5 := hI4.out.grown hown3 hgrow hloc; replace hown3 := Lib.hid hown3; replace hgrow := Lib.hid hgrow; replace hloc := Lib.hid hloc; replace hI5 := Lib.hid hI5))
            go_roundw
            case rel => exact ⟨k + 1, S2, _, by omega, by go_num, hK2.out, hI5.out⟩
            case measure => simp [intOf]; omega
    · have d2 : decide ((k : Int) < (len0 : Int)) = false := by simp; omega
      obtain rfl : k = len0 := by omega
      obtain ⟨A, c, rfl⟩ := own_slice hI.row
      rw [List.take_of_length_le (by omega)] at hK
      by_cases hk0 : 0 < k
      · have d5 : decide ((0 : Int) < (k : Int)) = true := by simp; omega
        go_wp2_with fail
        go_loopw [13] (fun i wr => K3 w hb len2 ns (textAt strs) (.slice A k c) k i wr) (fun i _ => len2 + 1 - (intOf i).toNat)
        case atStart => exact ⟨⟨0, S, F, Nat.zero_le _, rfl, hK, hI⟩⟩
        case round =>
          obtain ⟨⟨j, S3, F3, hj, rfl, hK3, hI3⟩⟩ := hrel
          by_cases hj2 : j < len2
          · have d6 : decide ((j : Int) < (len2 : Int)) = true := by simp; omega
            obtain ⟨ad2, x, rfl, hb2, hx, q1, q2, q3, q4, q5⟩ := op_at r2 h2 hj2
            have hxo := hl x (List.mem_of_getElem? hx)
            obtain ⟨xk, xb, xc, xo, xn, xt⟩ := x
            have o1 := keepo hI3.below hb2 q1
            have o2 := keepo hI3.below hb2 q2
            have o3 := keepo hI3.below hb2 q3
            have o4 := keepo hI3.below hb2 q4
            have xb0 : 0 ≤ xb ∧ xb ≤ 18446744073709551615 := hxo.block
            have i7 : (0 : Int) ≤ (j : Int) := by omega
            have i8 : (j : Int) < (len2 : Int) := by omega
            clear q1 q2 q5
            replace q3 := Lib.hid q3
            replace q4 := Lib.hid q4
            replace hx := Lib.hid hx
            replace hxo := Lib.hid hxo
            obtain ⟨at_, hat, hatk⟩ : ∃ at_ : Nat, xb % (k : Int) = (at_ : Int) ∧ at_ < k := by
              have g1 := Int.emod_nonneg xb (b := (k : Int)) (by omega)
              have g2 := Int.emod_lt_of_pos xb (b := (k : Int)) (by omega)
              exact ⟨(xb % (k : Int)).toNat, by omega, by omega⟩
            have hw1 : wrap64 (xb % (k : Int)) = (at_ : Int) := by rw [hat]; exact IntWalk.wrap64_in _ (by omega)
            obtain ⟨ad0, z0, rfl, hb0, hz, hc00⟩ := r0.at_ hatk
            obtain ⟨n, hn1, rfl⟩ : ∃ n, ns[at_]? = some n ∧ Value.int .u8 n = z0 := by simpa using hz
            have hn2 := hns n (List.mem_of_getElem? hn1)
            have hc0 := keepc hI3.below hb0 hc00
            have i9 : (0 : Int) ≤ (at_ : Int) := by omega
            have i10 : (at_ : Int) < (k : Int) := by omega
            clear hz hat
            replace hc00 := Lib.hid hc00
            by_cases hn0 : n = 0
            · have d7 : (n == 0) = true := by simp [hn0]
              replace hn0 := Lib.hid hn0
              go_wp2_with fail
              go_roundw
              case rel => exact ⟨⟨j + 1, S3, F3, by omega, by go_num, hK3, hI3⟩⟩
              case measure => simp [intOf]; omega
            · have d7 : (n == 0) = false := by simp [hn0]
              obtain ⟨n, rfl⟩ := Int.eq_ofNat_of_zero_le hn2.1
              have hu := wrap_u16_nonneg xc
              have hu2 : IntKind.u16.wrap xc ≤ 65535 := by simp [IntKind.wrap, IntKind.bits, IntKind.signed]; omega
              obtain ⟨ce, hce, hcen⟩ : ∃ ce : Nat, (IntKind.u16.wrap xc).tmod (n : Int) = (ce : Int) ∧ ce < n := by
                rw [Int.tmod_eq_emod_of_nonneg hu]
                have g1 := Int.emod_nonneg (IntKind.u16.wrap xc) (b := (n : Int)) (by omega)
                have g2 := Int.emod_lt_of_pos (IntKind.u16.wrap xc) (b := (n : Int)) (by omega)
                exact ⟨(IntKind.u16.wrap xc % (n : Int)).toNat, by omega, by omega⟩
              have hw2 : (wrap64 (IntKind.u16.wrap xc)).tmod (n : Int) = (ce : Int) := by rw [IntWalk.wrap64_in _ (by omega), hce]
              obtain ⟨ot, hot, hotk⟩ : ∃ ot : Nat, ((at_ : Int) + 1).tmod (k : Int) = (ot : Int) ∧ ot < k := by
                rw [Int.tmod_eq_emod_of_nonneg (by omega)]
                have g1 := Int.emod_nonneg ((at_ : Int) + 1) (b := (k : Int)) (by omega)
                have g2 := Int.emod_lt_of_pos ((at_ : Int) + 1) (b := (k : Int)) (by omega)
                exact ⟨(((at_ : Int) + 1) % (k : Int)).toNat, by omega, by omega⟩
              obtain ⟨n2, hm1⟩ : ∃ n2, ns[ot]? = some n2 := ⟨_, List.getElem?_eq_getElem (by omega)⟩
              have hm2 := hns n2 (List.mem_of_getElem? hm1)
              obtain ⟨n2, rfl⟩ := Int.eq_ofNat_of_zero_le hm2.1
              have hcm0 : w.cell? (ad0.add ot) = some (.int .u8 (n2 : Int)) := by
                obtain ⟨ad, e, _, hc⟩ := r0.2 (by omega)
                injection e with e
                subst e
                exact hc ot _ (by rw [List.getElem?_map, hm1]; rfl)
              have hxo2 : 0 ≤ xo ∧ xo ≤ 18446744073709551615 := hxo.out.old
              have hxn2 : 0 ≤ xn ∧ xn ≤ 18446744073709551615 := hxo.out.new
              have i11 : (0 : Int) ≤ (ce : Int) := by omega
              have i12 : (0 : Int) ≤ (ot : Int) := by omega
              have i13 : (ot : Int) < (k : Int) := by omega
              obtain ⟨gA, gc, hA, hat1⟩ := hI3.at_ hatk
              obtain ⟨rfl, rfl⟩ : A = some ⟨gA, 0, none⟩ ∧ c = gc := by injection hA with h1 h2 h3; exact ⟨h1, h3⟩
              obtain ⟨x0, hx0, hx0l, hx0t⟩ := hK3.find hn1
              have hK4 := hK3.set ((at_ : Int) + 1) ce xo
              obtain ⟨x1, hx1, hx1v, hx1l, hx1t⟩ := hK3.stored hn1 hcen xo
              have hIs := hI3.stay ((Below.refl _ _).drew)
              clear hce hu hu2 hA hns
              have hce0 : ce < x0.cells.length := by omega
              have hce1 : ce < x1.cells.length := by omega
              replace hx0 := Lib.hid hx0
              replace hx0l := Lib.hid hx0l
              replace hx0t := Lib.hid hx0t
              replace hx1l := Lib.hid hx1l
              replace hm1 := Lib.hid hm1
              replace hK3 := Lib.hid hK3
              replace hK4 := Lib.hid hK4
              replace hx1 := Lib.hid hx1
              replace hx1v := Lib.hid hx1v
              replace hx1t := Lib.hid hx1t
              replace hI3 := Lib.hid hI3
              replace hcm0 := Lib.hid hcm0
              replace hn1' := hn1
              replace hIs := Lib.hid hIs
              by_cases ht1 : at_ < len1
              · have e1 : decide ((at_ : Int) < (len1 : Int)) = true := by simp; omega
                have e2 : (at_ : Int) < (len1 : Int) := by omega
                obtain ⟨ad1, z1, rfl, hb1, hz1', hd1⟩ := r1.at_ ht1
                obtain ⟨s, hs1, rfl⟩ : ∃ s, strs[at_]? = some s ∧ Value.string s = z1 := by simpa using hz1'
                clear hz1'
                by_cases hs : s.size ≤ 50
                · have e3 : decide ((s.size : Int) ≤ 50) = true := by simp; omega
                  have hxt : x1.text = s := by rw [hx1t.out]; simp [textAt, hs1, hs]
                  replace hd1 := Lib.hid hd1
                  as_aux_lemma =>
                    go_wp2_with fail
                    go_still_tail 11, (by kernel_rfl)
                    change wpList _ _ _ _ _ wr.drew
                    have o3' : wr.drew.cell? ⟨(ad2.add (j * 6)).block, (ad2.add (j * 6)).off + 3, none⟩ = some (.int .u64 xo) := o3
                    have hat1' : wr.drew.cell? ⟨gA, at_, none⟩ = some (.int .u64 ((at_ : Int) + 1)) := hat1
                    go_wp2_with fail
                    refine (store_hit hIs.out.heap hx0.out ce hce0 hxo2).mono ?_; rintro e w2 ⟨rfl, t2⟩
                    have hI5 := hIs.out.turned t2
                    have p0 := hI5.cell_ hatk
                    have p1 := hI5.cell_ hotk
                    have p2 := keepc hI5.below hb0 hcm0.out
                    have p3 := keepo hI5.below hb2 q4.out
                    have p4 := keepo hI5.below hb2 q3.out
                    clear t2 o1 o2 o3 o4 o3' hat1 hat1' hc0
                    replace hI5 := Lib.hid hI5
                    by_cases hoa : ot = at_
                    · subst hoa
                      as_aux_lemma =>
                        go_wp2_with fail
                        refine (load_hit hI5.out.heap hx1.out ce hce1).mono ?_; rintro e w8 ⟨rfl, t8⟩
                        have hI8 := hI5.out.turned t8
                        rw [hx1v.out]
                        clear p0 p4 t8
                        have p0 := hI8.cell_ hatk
                        replace hI8 := Lib.hid hI8
                        go_wp2_with fail
                        refine (words_hit hI8.out.heap hx1.out).mono ?_; rintro e w9 ⟨rfl, hb9⟩
                        have hI9 := hI8.out.stay hb9
                        have p4 := keepo hI9.below hb2 q3.out
                        rw [hxt]
                        have p5 := keepc hI9.below hb1 hd1.out
                        clear hb9
                        replace hI9 := Lib.hid hI9
                        go_wp2_with fail
                        go_roundw
                        case rel => exact ⟨⟨j + 1, _, _, by omega, by go_num, hK4.out, hI9.out⟩⟩
                        case measure => simp [intOf]; omega
                    · have d8 : ((ot : Int) == (at_ : Int)) = false := by rw [beq_eq_false_iff_ne]; omega
                      have d8n : (ot == at_) = false := by simp [hoa]
                      by_cases h20 : 0 < n2
                      · have d9 : decide ((0 : Int) < (n2 : Int)) = true := by simp; omega
                        have d9n : decide (0 < n2) = true := by simp; omega
                        obtain ⟨x2, hx2, hx2l, _⟩ := hK4.out.find hm1.out
                        have hK6 := hK4.out.set ((ot : Int) + 1) 0 (IntKind.u64.wrap (x2.nth 0 + xn))
                        have hx6 := (find_other (S3.set ((at_ : Int) + 1) ce xo) ((ot : Int) + 1) ((at_ : Int) + 1) 0 (IntKind.u64.wrap (x2.nth 0 + xn)) (by omega)).trans hx1.out
                        have hIt := hI5.out.stay ((Below.refl _ _).drew)
                        have hx20 : 0 < x2.cells.length := by omega
                        clear hx2l
                        replace hx2 := Lib.hid hx2
                        replace hK6 := Lib.hid hK6
                        replace hx6 := Lib.hid hx6
                        replace hIt := Lib.hid hIt
                        go_wp2_with fail
                        go_still_tail 10, (by kernel_rfl)
                        change wpList _ _ _ _ _ w2.drew
                        have p1' : w2.drew.cell? ⟨gA, ot, none⟩ = some (.int .u64 ((ot : Int) + 1)) := p1
                        have p3' : w2.drew.cell? ⟨(ad2.add (j * 6)).block, (ad2.add (j * 6)).off + 4, none⟩ = some (.int .u64 xn) := p3
                        go_wp2_with fail
                        refine (bump_hit hIt.out.heap hx2.out 0 hx20 hxn2).mono ?_; rintro e w3 ⟨rfl, t3⟩
                        have hI7 := hIt.out.turned t3
                        clear p0 p1 p2 p3 p4 p1' p3' t3
                        have p0 := hI7.cell_ hatk
                        have p4 := keepo hI7.below hb2 q3.out
                        replace hI7 := Lib.hid hI7
                        as_aux_lemma =>
                          go_wp2_with fail
                          refine (load_hit hI7.out.heap hx6.out ce hce1).mono ?_; rintro e w8 ⟨rfl, t8⟩
                          have hI8 := hI7.out.turned t8
                          rw [hx1v.out]
                          clear p0 p4 t8
                          have p0 := hI8.cell_ hatk
                          replace hI8 := Lib.hid hI8
                          go_wp2_with fail
                          refine (words_hit hI8.out.heap hx6.out).mono ?_; rintro e w9 ⟨rfl, hb9⟩
                          have hI9 := hI8.out.stay hb9
                          have p4 := keepo hI9.below hb2 q3.out
                          rw [hxt]
                          have p5 := keepc hI9.below hb1 hd1.out
                          clear hb9
                          replace hI9 := Lib.hid hI9
                          go_wp2_with fail
                          go_roundw
                          case rel => exact ⟨⟨j + 1, _, _, by omega, by go_num, hK6.out, hI9.out⟩⟩
                          case measure => simp [intOf]; omega
                      · have d9 : decide ((0 : Int) < (n2 : Int)) = false := by simp; omega
                        as_aux_lemma =>
                          go_wp2_with fail
                          refine (load_hit hI5.out.heap hx1.out ce hce1).mono ?_; rintro e w8 ⟨rfl, t8⟩
                          have hI8 := hI5.out.turned t8
                          rw [hx1v.out]
                          clear p0 p4 t8
                          have p0 := hI8.cell_ hatk
                          replace hI8 := Lib.hid hI8
                          go_wp2_with fail
                          refine (words_hit hI8.out.heap hx1.out).mono ?_; rintro e w9 ⟨rfl, hb9⟩
                          have hI9 := hI8.out.stay hb9
                          have p4 := keepo hI9.below hb2 q3.out
                          rw [hxt]
                          have p5 := keepc hI9.below hb1 hd1.out
                          clear hb9
                          replace hI9 := Lib.hid hI9
                          go_wp2_with fail
                          go_roundw
                          case rel => exact ⟨⟨j + 1, _, _, by omega, by go_num, hK4.out, hI9.out⟩⟩
                          case measure => simp [intOf]; omega
                · have e3 : decide ((s.size : Int) ≤ 50) = false := by simp; omega
                  replace hd1 := Lib.hid hd1
                  as_aux_lemma =>
                    go_wp2_with fail
                    go_still_tail 11, (by kernel_rfl)
                    change wpList _ _ _ _ _ wr.drew
                    have o3' : wr.drew.cell? ⟨(ad2.add (j * 6)).block, (ad2.add (j * 6)).off + 3, none⟩ = some (.int .u64 xo) := o3
                    have hat1' : wr.drew.cell? ⟨gA, at_, none⟩ = some (.int .u64 ((at_ : Int) + 1)) := hat1
                    go_wp2_with fail
                    refine (store_hit hIs.out.heap hx0.out ce hce0 hxo2).mono ?_; rintro e w2 ⟨rfl, t2⟩
                    have hI5 := hIs.out.turned t2
                    have p0 := hI5.cell_ hatk
                    have p1 := hI5.cell_ hotk
                    have p2 := keepc hI5.below hb0 hcm0.out
                    have p3 := keepo hI5.below hb2 q4.out
                    have p4 := keepo hI5.below hb2 q3.out
                    clear t2 o1 o2 o3 o4 o3' hat1 hat1' hc0
                    replace hI5 := Lib.hid hI5
                    by_cases hoa : ot = at_
                    · subst hoa
                      as_aux_lemma =>
                        go_wp2_with fail
                        refine (load_hit hI5.out.heap hx1.out ce hce1).mono ?_; rintro e w8 ⟨rfl, t8⟩
                        have hI8 := hI5.out.turned t8
                        rw [hx1v.out]
                        clear p0 p4 t8
                        have p0 := hI8.cell_ hatk
                        replace hI8 := Lib.hid hI8
                        go_wp2_with fail
                        refine (words_hit hI8.out.heap hx1.out).mono ?_; rintro e w9 ⟨rfl, hb9⟩
                        have hI9 := hI8.out.stay hb9
                        have p4 := keepo hI9.below hb2 q3.out
                        have p5 := keepc hI9.below hb1 hd1.out
                        clear hb9
                        replace hI9 := Lib.hid hI9
                        go_wp2_with fail
                        go_roundw
                        case rel => exact ⟨⟨j + 1, _, _, by omega, by go_num, hK4.out, hI9.out⟩⟩
                        case measure => simp [intOf]; omega
                    · have d8 : ((ot : Int) == (at_ : Int)) = false := by rw [beq_eq_false_iff_ne]; omega
                      have d8n : (ot == at_) = false := by simp [hoa]
                      by_cases h20 : 0 < n2
                      · have d9 : decide ((0 : Int) < (n2 : Int)) = true := by simp; omega
                        have d9n : decide (0 < n2) = true := by simp; omega
                        obtain ⟨x2, hx2, hx2l, _⟩ := hK4.out.find hm1.out
                        have hK6 := hK4.out.set ((ot : Int) + 1) 0 (IntKind.u64.wrap (x2.nth 0 + xn))
                        have hx6 := (find_other (S3.set ((at_ : Int) + 1) ce xo) ((ot : Int) + 1) ((at_ : Int) + 1) 0 (IntKind.u64.wrap (x2.nth 0 + xn)) (by omega)).trans hx1.out
                        have hIt := hI5.out.stay ((Below.refl _ _).drew)
                        have hx20 : 0 < x2.cells.length := by omega
                        clear hx2l
                        replace hx2 := Lib.hid hx2
                        replace hK6 := Lib.hid hK6
                        replace hx6 := Lib.hid hx6
                        replace hIt := Lib.hid hIt
                        go_wp2_with fail
                        go_still_tail 10, (by kernel_rfl)
                        change wpList _ _ _ _ _ w2.drew
                        have p1' : w2.drew.cell? ⟨gA, ot, none⟩ = some (.int .u64 ((ot : Int) + 1)) := p1
                        have p3' : w2.drew.cell? ⟨(ad2.add (j * 6)).block, (ad2.add (j * 6)).off + 4, none⟩ = some (.int .u64 xn) := p3
                        go_wp2_with fail
                        refine (bump_hit hIt.out.heap hx2.out 0 hx20 hxn2).mono ?_; rintro e w3 ⟨rfl, t3⟩
                        have hI7 := hIt.out.turned t3
                        clear p0 p1 p2 p3 p4 p1' p3' t3
                        have p0 := hI7.cell_ hatk
                        have p4 := keepo hI7.below hb2 q3.out
                        replace hI7 := Lib.hid hI7
                        as_aux_lemma =>
                          go_wp2_with fail
                          refine (load_hit hI7.out.heap hx6.out ce hce1).mono ?_; rintro e w8 ⟨rfl, t8⟩
                          have hI8 := hI7.out.turned t8
                          rw [hx1v.out]
                          clear p0 p4 t8
                          have p0 := hI8.cell_ hatk
                          replace hI8 := Lib.hid hI8
                          go_wp2_with fail
                          refine (words_hit hI8.out.heap hx6.out).mono ?_; rintro e w9 ⟨rfl, hb9⟩
                          have hI9 := hI8.out.stay hb9
                          have p4 := keepo hI9.below hb2 q3.out
                          have p5 := keepc hI9.below hb1 hd1.out
                          clear hb9
                          replace hI9 := Lib.hid hI9
                          go_wp2_with fail
                          go_roundw
                          case rel => exact ⟨⟨j + 1, _, _, by omega, by go_num, hK6.out, hI9.out⟩⟩
                          case measure => simp [intOf]; omega
                      · have d9 : decide ((0 : Int) < (n2 : Int)) = false := by simp; omega
                        as_aux_lemma =>
                          go_wp2_with fail
                          refine (load_hit hI5.out.heap hx1.out ce hce1).mono ?_; rintro e w8 ⟨rfl, t8⟩
                          have hI8 := hI5.out.turned t8
                          rw [hx1v.out]
                          clear p0 p4 t8
                          have p0 := hI8.cell_ hatk
                          replace hI8 := Lib.hid hI8
                          go_wp2_with fail
                          refine (words_hit hI8.out.heap hx1.out).mono ?_; rintro e w9 ⟨rfl, hb9⟩
                          have hI9 := hI8.out.stay hb9
                          have p4 := keepo hI9.below hb2 q3.out
                          have p5 := keepc hI9.below hb1 hd1.out
                          clear hb9
                          replace hI9 := Lib.hid hI9
                          go_wp2_with fail
                          go_roundw
                          case rel => exact ⟨⟨j + 1, _, _, by omega, by go_num, hK4.out, hI9.out⟩⟩
                          case measure => simp [intOf]; omega
              · have e1 : decide ((at_ : Int) < (len1 : Int)) = false := by simp; omega
                as_aux_lemma =>
                  go_wp2_with fail
                  go_still_tail 11, (by kernel_rfl)
                  change wpList _ _ _ _ _ wr.drew
                  have o3' : wr.drew.cell? ⟨(ad2.add (j * 6)).block, (ad2.add (j * 6)).off + 3, none⟩ = some (.int .u64 xo) := o3
                  have hat1' : wr.drew.cell? ⟨gA, at_, none⟩ = some (.int .u64 ((at_ : Int) + 1)) := hat1
                  go_wp2_with fail
                  refine (store_hit hIs.out.heap hx0.out ce hce0 hxo2).mono ?_; rintro e w2 ⟨rfl, t2⟩
                  have hI5 := hIs.out.turned t2
                  have p0 := hI5.cell_ hatk
                  have p1 := hI5.cell_ hotk
                  have p2 := keepc hI5.below hb0 hcm0.out
                  have p3 := keepo hI5.below hb2 q4.out
                  have p4 := keepo hI5.below hb2 q3.out
                  clear t2 o1 o2 o3 o4 o3' hat1 hat1' hc0
                  replace hI5 := Lib.hid hI5
                  by_cases hoa : ot = at_
                  · subst hoa
                    as_aux_lemma =>
                      go_wp2_with fail
                      refine (load_hit hI5.out.heap hx1.out ce hce1).mono ?_; rintro e w8 ⟨rfl, t8⟩
                      have hI8 := hI5.out.turned t8
                      rw [hx1v.out]
                      clear p0 p4 t8
                      have p0 := hI8.cell_ hatk
                      replace hI8 := Lib.hid hI8
                      go_wp2_with fail
                      refine (words_hit hI8.out.heap hx1.out).mono ?_; rintro e w9 ⟨rfl, hb9⟩
                      have hI9 := hI8.out.stay hb9
                      have p4 := keepo hI9.below hb2 q3.out
                      
                      clear hb9
                      replace hI9 := Lib.hid hI9
                      go_wp2_with fail
                      go_roundw
                      case rel => exact ⟨⟨j + 1, _, _, by omega, by go_num, hK4.out, hI9.out⟩⟩
                      case measure => simp [intOf]; omega
                  · have d8 : ((ot : Int) == (at_ : Int)) = false := by rw [beq_eq_false_iff_ne]; omega
                    have d8n : (ot == at_) = false := by simp [hoa]
                    by_cases h20 : 0 < n2
                    · have d9 : decide ((0 : Int) < (n2 : Int)) = true := by simp; omega
                      have d9n : decide (0 < n2) = true := by simp; omega
                      obtain ⟨x2, hx2, hx2l, _⟩ := hK4.out.find hm1.out
                      have hK6 := hK4.out.set ((ot : Int) + 1) 0 (IntKind.u64.wrap (x2.nth 0 + xn))
                      have hx6 := (find_other (S3.set ((at_ : Int) + 1) ce xo) ((ot : Int) + 1) ((at_ : Int) + 1) 0 (IntKind.u64.wrap (x2.nth 0 + xn)) (by omega)).trans hx1.out
                      have hIt := hI5.out.stay ((Below.refl _ _).drew)
                      have hx20 : 0 < x2.cells.length := by omega
                      clear hx2l
                      replace hx2 := Lib.hid hx2
                      replace hK6 := Lib.hid hK6
                      replace hx6 := Lib.hid hx6
                      replace hIt := Lib.hid hIt
                      go_wp2_with fail
                      go_still_tail 10, (by kernel_rfl)
                      change wpList _ _ _ _ _ w2.drew
                      have p1' : w2.drew.cell? ⟨gA, ot, none⟩ = some (.int .u64 ((ot : Int) + 1)) := p1
                      have p3' : w2.drew.cell? ⟨(ad2.add (j * 6)).block, (ad2.add (j * 6)).off + 4, none⟩ = some (.int .u64 xn) := p3
                      go_wp2_with fail
                      refine (bump_hit hIt.out.heap hx2.out 0 hx20 hxn2).mono ?_; rintro e w3 ⟨rfl, t3⟩
                      have hI7 := hIt.out.turned t3
                      clear p0 p1 p2 p3 p4 p1' p3' t3
                      have p0 := hI7.cell_ hatk
                      have p4 := keepo hI7.below hb2 q3.out
                      replace hI7 := Lib.hid hI7
                      as_aux_lemma =>
                        go_wp2_with fail
                        refine (load_hit hI7.out.heap hx6.out ce hce1).mono ?_; rintro e w8 ⟨rfl, t8⟩
                        have hI8 := hI7.out.turned t8
                        rw [hx1v.out]
                        clear p0 p4 t8
                        have p0 := hI8.cell_ hatk
                        replace hI8 := Lib.hid hI8
                        go_wp2_with fail
                        refine (words_hit hI8.out.heap hx6.out).mono ?_; rintro e w9 ⟨rfl, hb9⟩
                        have hI9 := hI8.out.stay hb9
                        have p4 := keepo hI9.below hb2 q3.out
                        
                        clear hb9
                        replace hI9 := Lib.hid hI9
                        go_wp2_with fail
                        go_roundw
                        case rel => exact ⟨⟨j + 1, _, _, by omega, by go_num, hK6.out, hI9.out⟩⟩
                        case measure => simp [intOf]; omega
                    · have d9 : decide ((0 : Int) < (n2 : Int)) = false := by simp; omega
                      as_aux_lemma =>
                        go_wp2_with fail
                        refine (load_hit hI5.out.heap hx1.out ce hce1).mono ?_; rintro e w8 ⟨rfl, t8⟩
                        have hI8 := hI5.out.turned t8
                        rw [hx1v.out]
                        clear p0 p4 t8
                        have p0 := hI8.cell_ hatk
                        replace hI8 := Lib.hid hI8
                        go_wp2_with fail
                        refine (words_hit hI8.out.heap hx1.out).mono ?_; rintro e w9 ⟨rfl, hb9⟩
                        have hI9 := hI8.out.stay hb9
                        have p4 := keepo hI9.below hb2 q3.out
                        
                        clear hb9
                        replace hI9 := Lib.hid hI9
                        go_wp2_with fail
                        go_roundw
                        case rel => exact ⟨⟨j + 1, _, _, by omega, by go_num, hK4.out, hI9.out⟩⟩
                        case measure => simp [intOf]; omega
          · have d6 : decide ((j : Int) < (len2 : Int)) = false := by simp; omega
            as_aux_lemma =>
              go_wp2_with fail
              go_loopw [22] (fun i wr => K4 w hb (.slice A k c) k i wr) (fun i _ => k + 1 - (intOf i).toNat)
              case atStart => exact ⟨⟨0, S3, F3, Nat.zero_le _, rfl, by have := hK3.fewer; rwa [h0] at this, hI3⟩⟩
              case round =>
                obtain ⟨⟨j, S4, F4, hj, rfl, hK4, hI4⟩⟩ := hrel
                by_cases hjk : j < k
                · have d1 : decide ((j : Int) < (k : Int)) = true := by simp; omega
                  have i5 : (0 : Int) ≤ (j : Int) := by omega
                  have i6 : (j : Int) < (k : Int) := by omega
                  obtain ⟨g, c', hA, hgc⟩ := hI4.at_ hjk
                  obtain ⟨rfl, rfl⟩ : A = some ⟨g, 0, none⟩ ∧ c = c' := by injection hA with h1 h2 h3; exact ⟨h1, h3⟩
                  obtain ⟨x, hx⟩ := hK4.find hjk
                  obtain ⟨f1, f2, f3⟩ := hK4.drop hjk
                  have hfl := hK4.faults
                  clear hA
                  replace hx := Lib.hid hx
                  replace f1 := Lib.hid f1
                  replace f2 := Lib.hid f2
                  replace f3 := Lib.hid f3
                  replace hfl := Lib.hid hfl
                  replace hK4 := Lib.hid hK4
                  replace hI4 := Lib.hid hI4
                  go_wp2_with fail
                  refine (drop_hit hI4.out.heap hx.out).mono ?_; rintro e w2 ⟨rfl, t2⟩
                  have hI5 := hI4.out.turned t2
                  clear hgc t2
                  have p0 := hI5.cell_ hjk
                  replace hI5 := Lib.hid hI5
                  go_wp2_with fail
                  refine (drop_bad hI5.out.heap (b := (j : Int) + 1) (by omega) f1.out (by show S4.faults < _; have := hfl.out; omega)).mono ?_; rintro e w3 ⟨rfl, t3⟩
                  rw [f2.out]
                  have hI6 := hI5.out.turned t3
                  clear t3
                  replace hI6 := Lib.hid hI6
                  go_wp2_with fail
                  go_roundw
                  case rel => exact ⟨⟨j + 1, _, _, by omega, by go_num, f3.out, hI6.out⟩⟩
                  case measure => simp [intOf]; omega
                · have d1 : decide ((j : Int) < (k : Int)) = false := by simp; omega
                  obtain rfl : j = k := by omega
                  have hnb := hK4.none
                  have hfl := hK4.faults
                  have hFa := fun W (hb : Below wr.heap.size wr W) => faults_any (hI4.heap.below hb)
                  rw [hfl] at hFa
                  replace hFa := Lib.hid hFa
                  replace hnb := Lib.hid hnb
                  replace hfl := Lib.hid hfl
                  replace hK4 := Lib.hid hK4
                  replace hI4 := Lib.hid hI4
                  go_wp2_with fail
                  refine (blocks_empty hI4.out.heap hnb.out).mono ?_; rintro e w5 ⟨rfl, hb5⟩
                  go_wp2_with fail
                  refine (hFa.out _ hb5).mono ?_; rintro e w6 ⟨rfl, rfl⟩
                  go_wp2_with fail
                  refine (awake17 _).mono ?_; rintro e w7 ⟨rfl, hb7⟩
                  go_wp2_with fail
                  go_ret
                  exact ⟨rfl, Below.next_ (Below.next_ hI4.out.below hb5) hb7⟩
      · obtain rfl : k = 0 := by omega
        go_wp2_with fail
        go_loopw [13] (fun i wr => K3 w hb len2 ns (textAt strs) (.slice A 0 c) 0 i wr) (fun i _ => len2 + 1 - (intOf i).toNat)
        case atStart => exact ⟨⟨0, S, F, Nat.zero_le _, rfl, hK, hI⟩⟩
        case round =>
          obtain ⟨⟨j, S3, F3, hj, rfl, hK3, hI3⟩⟩ := hrel
          by_cases hj2 : j < len2
          · have d6 : decide ((j : Int) < (len2 : Int)) = true := by simp; omega
            as_aux_lemma =>
              go_wp2_with fail
              go_loopw [22] (fun i wr => K4 w hb (.slice A 0 c) 0 i wr) (fun i _ => 0 + 1 - (intOf i).toNat)
              case atStart => exact ⟨⟨0, S3, F3, Nat.zero_le _, rfl, by have := hK3.fewer; rwa [h0] at this, hI3⟩⟩
              case round =>
                obtain ⟨⟨j, S4, F4, hj, rfl, hK4, hI4⟩⟩ := hrel
                by_cases hjk : j < 0
                · exact absurd hjk (Nat.not_lt_zero _)
                · have d1 : decide ((j : Int) < ((0 : Nat) : Int)) = false := by simp
                  obtain rfl : j = 0 := by omega
                  have hnb := hK4.none
                  have hfl := hK4.faults
                  have hFa := fun W (hb : Below wr.heap.size wr W) => faults_any (hI4.heap.below hb)
                  rw [hfl] at hFa
                  replace hFa := Lib.hid hFa
                  replace hnb := Lib.hid hnb
                  replace hfl := Lib.hid hfl
                  replace hK4 := Lib.hid hK4
                  replace hI4 := Lib.hid hI4
                  go_wp2_with fail
                  refine (blocks_empty hI4.out.heap hnb.out).mono ?_; rintro e w5 ⟨rfl, hb5⟩
                  go_wp2_with fail
                  refine (hFa.out _ hb5).mono ?_; rintro e w6 ⟨rfl, rfl⟩
                  go_wp2_with fail
                  refine (awake17 _).mono ?_; rintro e w7 ⟨rfl, hb7⟩
                  go_wp2_with fail
                  go_ret
                  exact ⟨rfl, Below.next_ (Below.next_ hI4.out.below hb5) hb7⟩
          · have d6 : decide ((j : Int) < (len2 : Int)) = false := by simp; omega
            as_aux_lemma =>
              go_wp2_with fail
              go_loopw [22] (fun i wr => K4 w hb (.slice A 0 c) 0 i wr) (fun i _ => 0 + 1 - (intOf i).toNat)
              case atStart => exact ⟨⟨0, S3, F3, Nat.zero_le _, rfl, by have := hK3.fewer; rwa [h0] at this, hI3⟩⟩
              case round =>
                obtain ⟨⟨j, S4, F4, hj, rfl, hK4, hI4⟩⟩ := hrel
                by_cases hjk : j < 0
                · exact absurd hjk (Nat.not_lt_zero _)
                · have d1 : decide ((j : Int) < ((0 : Nat) : Int)) = false := by simp
                  obtain rfl : j = 0 := by omega
                  have hnb := hK4.none
                  have hfl := hK4.faults
                  have hFa := fun W (hb : Below wr.heap.size wr W) => faults_any (hI4.heap.below hb)
                  rw [hfl] at hFa
                  replace hFa := Lib.hid hFa
                  replace hnb := Lib.hid hnb
                  replace hfl := Lib.hid hfl
                  replace hK4 := Lib.hid hK4
                  replace hI4 := Lib.hid hI4
                  go_wp2_with fail
                  refine (blocks_empty hI4.out.heap hnb.out).mono ?_; rintro e w5 ⟨rfl, hb5⟩
                  go_wp2_with fail
                  refine (hFa.out _ hb5).mono ?_; rintro e w6 ⟨rfl, rfl⟩
                  go_wp2_with fail
                  refine (awake17 _).mono ?_; rintro e w7 ⟨rfl, hb7⟩
                  go_wp2_with fail
                  go_ret
                  exact ⟨rfl, Below.next_ (Below.next_ hI4.out.below hb5) hb7⟩
end Go.Proofs.Ytdmdkelmmlinlaa
