/-
  The routine that makes a version (layer 22): how it is made. No condition.
-/
import Derived.Test.YtfelkkbgbgnpaaaShelf
import Derived.Laws.AppendOwn
import Derived.PlainAid
namespace Go.Proofs.Ytfelkkbgbgnpaaa
set_option linter.unusedVariables false
open Go.ChangeShapes Go.WideShapes Go.ChangeAt Go.RowKit
open Go.ChangeMaps (setBlock)

def verTodo (epoch next : Int) (c : PChange) : List PAct :=
  ⟨5, 0, 3, 0, 0, if c.has then c.value else ByteArray.empty⟩ :: ⟨2, 0, 0, 0, epoch, ByteArray.empty⟩ ::
    ((if next = 0 then [] else [⟨2, 0, 1, 0, next, ByteArray.empty⟩]) ++ (if c.has then [⟨2, 0, 2, 0, 1, ByteArray.empty⟩] else []))
def newVer (epoch next : Int) (c : PChange) : PVer := ⟨verTodo epoch next c, 0, 0⟩
theorem reads_blk {w : World} {g : Nat} {t : TypeId} {cs : Array Value} (h : Blk w g t cs) (k : Nat) (hk : cs.size = k) : Reads w (g + 1) k (some ⟨g, 0, none⟩) 1 cs.toList := by
  refine ⟨by simp [hk], fun _ => ⟨_, rfl, by show g < g + 1; omega, fun j u hu => ?_⟩⟩
  have := h.cell j
  have e : (⟨g, 0, none⟩ : Addr).add j = ⟨g, j, none⟩ := by unfold Addr.add; split <;> simp_all
  rw [e, this]
  simpa using hu
theorem ownsRow_blk {w : World} {g base : Nat} {t : TypeId} {cs : Array Value} (h : Blk w g t cs) (k : Nat) (hk : cs.size = k) (hb : base ≤ g) : w.ownsRow base t k (.slice (some ⟨g, 0, none⟩) 1 1) 1 cs.toList := by
  refine ⟨by simp [hk], .inr ⟨g, 1, cs, rfl, hb, h, Nat.le_refl _, by unfold maxLen; omega, by omega, ?_⟩⟩
  have : cs.toList.length = 1 * k := by simp [hk]
  rw [← this, List.take_length]
theorem own_ne_blk {w : World} {base : Nat} {e t : TypeId} {size n g : Nat} {v : Value} {xs : List Value} {cs : Array Value} (h : w.ownsRow base e size v n xs) (hg : Blk w g t cs) (hne : e ≠ t) : some g ≠ v.ownBlock := fun e' => own_blk_ne h hg hne e'.symm
theorem actL_snoc (l : List PAct) (x : PAct) : actL l ++ [.int .i64 x.kind, .int .u64 x.block, .int .i64 x.cell, .int .u64 x.old, .int .u64 x.new, .string x.text] = actL (l ++ [x]) := by
  simp [actL, actC]
theorem own_below_ {B : Nat} {w wr w1 : World} {e : TypeId} {size n : Nat} {v : Value} {xs : List Value} (hB : B ≤ w.heap.size) (h : Below B w wr) (ho : wr.ownsRow B e size v n xs) (hg : wr.grownBy w1 v.ownBlock) : Below B w w1 :=
  ⟨hg.os.trans h.os, hg.tape.trans h.tape, hg.output.trans h.output, Nat.le_trans h.size hg.size, fun i hi => (hg.block i (Nat.lt_of_lt_of_le (Nat.lt_of_lt_of_le hi hB) h.size) (fun e' => by have := (World.ownsRow.lt ho _ e'.symm).1; omega)).trans (h.block i hi)⟩
/-- What lies behind some words. -/
def verPre (e n lv : Int) (t : ByteArray) (k : Int) : List PAct :=
  ⟨5, 0, 3, 0, 0, t⟩ :: ((if k < 1 then [] else [⟨2, 0, 0, 0, e, ByteArray.empty⟩]) ++ (if k < 2 ∨ n = 0 then [] else [⟨2, 0, 1, 0, n, ByteArray.empty⟩]) ++ (if k < 3 ∨ lv = 0 then [] else [⟨2, 0, 2, 0, lv, ByteArray.empty⟩]))
def NewRel (w : World) (e n lv : Int) (t : ByteArray) (bx : Nat) (i : Value) (wr : World) : Prop :=
  ∃ (k : Int) (A : Option Addr) (c : Nat), (k = 0 ∨ k = 1 ∨ k = 2 ∨ k = 3) ∧ i = .int .i64 k ∧
    Blk wr bx 230 #[.slice A (verPre e n lv t k).length c, .int .i64 0, .int .u64 0] ∧
    wr.ownsRow w.heap.size 31 6 (.slice A (verPre e n lv t k).length c) (verPre e n lv t k).length (actL (verPre e n lv t k)) ∧ Below w.heap.size w wr
theorem own_far {w : World} {base : Nat} {e : TypeId} {size n : Nat} {v : Value} {xs : List Value} (h : w.ownsRow base e size v n xs) {p : Addr} (hp : some p.block ≠ v.ownBlock) (u : Value) : (w.setCell p u).ownsRow base e size v n xs :=
  ⟨h.1, h.2.imp id fun ⟨g, cap, cur, e1, e2, e3, r⟩ => ⟨g, cap, cur, e1, e2, (Below.heap_setCell w p u g (fun e' => hp (by rw [e1, ← e']; rfl))).trans e3, r⟩⟩
theorem new_step {w w1 : World} {l l' : List PAct} {x : PAct} {bx g c cap : Nat} {A : Option Addr} (hbx : w.heap.size ≤ bx)
    (g1 : Blk w1 bx 230 #[.slice A l.length c, .int .i64 0, .int .u64 0])
    (hown : w1.ownsRow w.heap.size 31 6 (.slice (some ⟨g, 0, none⟩) (l.length + 1) cap) (l.length + 1) (actL (l ++ [x])))
    (hb : Below w.heap.size w w1) (hl : l ++ [x] = l') :
    Blk (w1.setCell ⟨bx, 0, none⟩ (.slice (some ⟨g, 0, none⟩) ((l.length : Int) + 1).toNat cap)) bx 230 #[.slice (some ⟨g, 0, none⟩) l'.length cap, .int .i64 0, .int .u64 0] ∧
    (w1.setCell ⟨bx, 0, none⟩ (.slice (some ⟨g, 0, none⟩) ((l.length : Int) + 1).toNat cap)).ownsRow w.heap.size 31 6 (.slice (some ⟨g, 0, none⟩) l'.length cap) l'.length (actL l') ∧
    Below w.heap.size w (w1.setCell ⟨bx, 0, none⟩ (.slice (some ⟨g, 0, none⟩) ((l.length : Int) + 1).toNat cap)) := by
  subst hl
  have e : ((l.length : Int) + 1).toNat = l.length + 1 := by omega
  rw [e, List.length_append]
  refine ⟨Blk.eq_cs (g1.set_ 0 _) (by simp), own_far hown (own_ne_blk hown g1 (by decide)) _, hb.setCell hbx _⟩
theorem words0 (a b c : Int) (w : World) : (Instr.index 238 (.agg #[.int .u64 a, .int .u64 b, .int .u64 c]) (.int .i64 0)).run Try.prog w = .ok (.int .u64 a) w := by kernel_rfl
theorem words1 (a b c : Int) (w : World) : (Instr.index 238 (.agg #[.int .u64 a, .int .u64 b, .int .u64 c]) (.int .i64 1)).run Try.prog w = .ok (.int .u64 b) w := by kernel_rfl
theorem words2 (a b c : Int) (w : World) : (Instr.index 238 (.agg #[.int .u64 a, .int .u64 b, .int .u64 c]) (.int .i64 2)).run Try.prog w = .ok (.int .u64 c) w := by kernel_rfl
theorem verPre_len (e n lv : Int) (t : ByteArray) (k : Int) : 0 < (verPre e n lv t k).length ∧ (verPre e n lv t k).length ≤ 4 := by
  unfold verPre
  simp only [List.length_cons, List.length_append]
  split <;> split <;> split <;> simp
theorem verPre_kind (e n lv : Int) (t : ByteArray) (k : Int) : ∀ x ∈ verPre e n lv t k, x.kind ≠ 0 := by
  unfold verPre
  intro x hx
  simp only [List.mem_cons, List.mem_append] at hx
  rcases hx with rfl | (hx | hx) | hx
  · show (5 : Int) ≠ 0; decide
  · split at hx
    · simp at hx
    · simp at hx; subst hx; show (2 : Int) ≠ 0; decide
  · split at hx
    · simp at hx
    · simp at hx; subst hx; show (2 : Int) ≠ 0; decide
  · split at hx
    · simp at hx
    · simp at hx; subst hx; show (2 : Int) ≠ 0; decide
theorem new_end {w wr : World} {e n lv : Int} {t : ByteArray} {bx c : Nat} {A : Option Addr} (hbx : w.heap.size ≤ bx)
    (hB : Blk wr bx 230 #[.slice A (verPre e n lv t 3).length c, .int .i64 0, .int .u64 0])
    (hown : wr.ownsRow w.heap.size 31 6 (.slice A (verPre e n lv t 3).length c) (verPre e n lv t 3).length (actL (verPre e n lv t 3))) :
    ∃ ar, VerIn wr bx ar c ⟨verPre e n lv t 3, 0, 0⟩ ∧ w.heap.size ≤ ar := by
  have hl := verPre_len e n lv t 3
  have hne := own_ne_blk hown hB (by decide)
  obtain ⟨g, cap, hv, hg, hlt⟩ := hown.form hl.1
  have hA : A = some ⟨g, 0, none⟩ ∧ c = cap := by injection hv with h1 h2 h3; exact ⟨h1, h3⟩
  obtain ⟨rfl, rfl⟩ := hA
  refine ⟨g, ⟨hB, fun j u hj => ?_, hlt, fun e => hne (by rw [e]; rfl), by show (verPre e n lv t 3).length ≤ _; omega, hl.1, Nat.zero_le _, verPre_kind _ _ _ _ _⟩, hg⟩
  have := hown.cells (g := g) rfl j u hj
  have e : (⟨g, 0, none⟩ : Addr).add j = ⟨g, j, none⟩ := by unfold Addr.add; split <;> simp_all
  rwa [e] at this
set_option maxRecDepth 100000 in
set_option maxHeartbeats 1000000 in
theorem verNew_any (w : World) (epoch next : Int) (c : PChange) :
    Calls Try.prog 131 #[.int .u64 epoch, .int .u64 next, c.val] w fun e w' => ∃ b ar cc, e = .returned (.pointer (some ⟨b, 0, none⟩)) ∧ VerIn w' b ar cc (newVer epoch next c) ∧ w.heap.size ≤ b ∧ w.heap.size ≤ ar ∧ Below w.heap.size w w' := by
  obtain ⟨key, has, value⟩ := c
  rw [show PChange.val ⟨key, has, value⟩ = .agg #[.string key, .bool has, .string value] from rfl]
  obtain ⟨i0, hi, hz0, hz1, hz2⟩ : ∃ i, Try.prog.info? 31 = some i ∧ i.zero = some (.agg #[.int .i64 0, .int .u64 0, .int .i64 0, .int .u64 0, .int .u64 0, .string ⟨#[]⟩]) ∧ i.size = 6 ∧ i.bytes = 56 := ⟨_, rfl, rfl, rfl, rfl⟩
  have W0 := words0
  have W1 := words1
  have W2 := words2
  cases has with
  | false =>
    have hN : verTodo epoch next ⟨key, false, value⟩ = verPre epoch next 0 ByteArray.empty 3 := by simp [verTodo, verPre]
    have hNV : newVer epoch next ⟨key, false, value⟩ = ⟨verPre epoch next 0 ByteArray.empty 3, 0, 0⟩ := by rw [newVer, hN]
    rw [hNV]
    clear hN hNV
    go_enter Try.func131, Try.ntmps131
    go_wp2_with fail
    go_loopw [32] (fun i wr => NewRel w epoch next 0 ByteArray.empty (w.heap.size + 2) i wr) (fun i _ => (3 - intOf i).toNat)
    case atStart =>
      have B1 := ((Blk.new (w.alloc (.cells #[.string key, .bool false, .string value] 58)) 31 #[.int .i64 5, .int .u64 0, .int .i64 3, .int .u64 0, .int .u64 0, .string ⟨#[]⟩]).alloc (.cells #[.slice (some ⟨w.heap.size + 1, 0, none⟩) 1 1, .int .i64 0, .int .u64 0] 230)).alloc (.cells #[.int .u64 epoch, .int .u64 next, .int .u64 0] 238)
      have B2 := (Blk.new ((w.alloc (.cells #[.string key, .bool false, .string value] 58)).alloc (.cells #[.int .i64 5, .int .u64 0, .int .i64 3, .int .u64 0, .int .u64 0, .string ⟨#[]⟩] 31)) 230 #[.slice (some ⟨w.heap.size + 1, 0, none⟩) 1 1, .int .i64 0, .int .u64 0]).alloc (.cells #[.int .u64 epoch, .int .u64 next, .int .u64 0] 238)
      simp only [World.size_alloc] at B1 B2
      exact ⟨0, some ⟨w.heap.size + 1, 0, none⟩, 1, .inl rfl, rfl, B2, ownsRow_blk B1 6 rfl (by omega), ((((Below.refl _ _).alloc (Nat.le_refl _) _).alloc (by simp) _).alloc (by simp; omega) _).alloc (by simp; omega) _⟩
    case round =>
      obtain ⟨k, A, c, hk, rfl, hB, hown, hb⟩ := hrel
      have c0 := hB.cell 0
      have hbx : w.heap.size ≤ w.heap.size + 2 := by omega
      have hl := verPre_len epoch next 0 ByteArray.empty k
      replace hl := Lib.hid hl
      replace hB := Lib.hid hB
      replace hown := Lib.hid hown
      replace hb := Lib.hid hb
      rcases hk with rfl | rfl | rfl | rfl
      · by_cases e0 : epoch = 0
        · subst e0
          go_wp2_with (at_builtin; go_loud (refine wpList_append_any _ rfl _ _ 105 rfl w.heap.size 31 i0 (.agg #[.int .i64 0, .int .u64 0, .int .i64 0, .int .u64 0, .int .u64 0, .string ⟨#[]⟩]) 6 56 Try.underlying105 hi hz0 hz1 hz2 rfl (by decide) _ _ _ rfl (hown.out.alloc _) (wr.heap.size + 1) (some ⟨wr.heap.size, 0, none⟩) 1 1 (actC ⟨2, 0, 0, 0, 0, ByteArray.empty⟩) rfl (reads_blk (Blk.new wr 31 _) 6 rfl) (by simp [actC, Value.oneCell']) (by have := hl.out; unfold maxLen; omega) (by have := hl.out; omega) (by have := hb.out.size; simp; omega) ?_; intro v' w1 hown1 hgrow hloc; rw [show actC ⟨2, 0, 0, 0, 0, ByteArray.empty⟩ = [.int .i64 2, .int .u64 0, .int .i64 0, .int .u64 0, .int .u64 0, .string ByteArray.empty] from rfl, actL_snoc _ ⟨2, 0, 0, 0, 0, ByteArray.empty⟩] at hown1; obtain ⟨g, cap, rfl, hg1, hg2⟩ := hown1.form (by omega); have g1 := (hB.out.alloc (.cells #[.int .i64 2, .int .u64 0, .int .i64 0, .int .u64 0, .int .u64 0, .string ⟨#[]⟩] 31)).grown hgrow (own_ne_blk hown.out hB.out (by decide)); have hb1 := own_below_ (Nat.le_refl _) (Below.more_ hb.out _) (hown.out.alloc _) hgrow; have g10 := g1.cell 0; have f10 := g1.frozen 0; replace g1 := Lib.hid g1; replace hb1 := Lib.hid hb1; replace hown1 := Lib.hid hown1; replace hgrow := Lib.hid hgrow))
          go_roundw
          case rel => exact ⟨1, _, _, by decide, rfl, new_step hbx g1.out hown1.out hb1.out (by simp [verPre])⟩
          case measure => simp [intOf]
        · have d0 : (epoch == 0) = false := by simp [e0]
          go_wp2_with (at_builtin; go_loud (refine wpList_append_any _ rfl _ _ 105 rfl w.heap.size 31 i0 (.agg #[.int .i64 0, .int .u64 0, .int .i64 0, .int .u64 0, .int .u64 0, .string ⟨#[]⟩]) 6 56 Try.underlying105 hi hz0 hz1 hz2 rfl (by decide) _ _ _ rfl (hown.out.alloc _) (wr.heap.size + 1) (some ⟨wr.heap.size, 0, none⟩) 1 1 (actC ⟨2, 0, 0, 0, epoch, ByteArray.empty⟩) rfl (reads_blk (Blk.new wr 31 _) 6 rfl) (by simp [actC, Value.oneCell']) (by have := hl.out; unfold maxLen; omega) (by have := hl.out; omega) (by have := hb.out.size; simp; omega) ?_; intro v' w1 hown1 hgrow hloc; rw [show actC ⟨2, 0, 0, 0, epoch, ByteArray.empty⟩ = [.int .i64 2, .int .u64 0, .int .i64 0, .int .u64 0, .int .u64 epoch, .string ByteArray.empty] from rfl, actL_snoc _ ⟨2, 0, 0, 0, epoch, ByteArray.empty⟩] at hown1; obtain ⟨g, cap, rfl, hg1, hg2⟩ := hown1.form (by omega); have g1 := (hB.out.alloc (.cells #[.int .i64 2, .int .u64 0, .int .i64 0, .int .u64 0, .int .u64 epoch, .string ⟨#[]⟩] 31)).grown hgrow (own_ne_blk hown.out hB.out (by decide)); have hb1 := own_below_ (Nat.le_refl _) (Below.more_ hb.out _) (hown.out.alloc _) hgrow; have g10 := g1.cell 0; have f10 := g1.frozen 0; replace g1 := Lib.hid g1; replace hb1 := Lib.hid hb1; replace hown1 := Lib.hid hown1; replace hgrow := Lib.hid hgrow))
          go_roundw
          case rel => exact ⟨1, _, _, by decide, rfl, new_step hbx g1.out hown1.out hb1.out (by simp [verPre])⟩
          case measure => simp [intOf]
      · by_cases e0 : next = 0
        · subst e0
          go_wp2_with fail
          go_roundw
          case rel =>
            have e : verPre epoch 0 0 ByteArray.empty 1 = verPre epoch 0 0 ByteArray.empty 2 := by simp [verPre]
            exact ⟨2, A, c, by decide, rfl, e ▸ hB.out, e ▸ hown.out, hb.out⟩
          case measure => simp [intOf]
        · have d0 : (next == 0) = false := by simp [e0]
          go_wp2_with (at_builtin; go_loud (refine wpList_append_any _ rfl _ _ 105 rfl w.heap.size 31 i0 (.agg #[.int .i64 0, .int .u64 0, .int .i64 0, .int .u64 0, .int .u64 0, .string ⟨#[]⟩]) 6 56 Try.underlying105 hi hz0 hz1 hz2 rfl (by decide) _ _ _ rfl (hown.out.alloc _) (wr.heap.size + 1) (some ⟨wr.heap.size, 0, none⟩) 1 1 (actC ⟨2, 0, 1, 0, next, ByteArray.empty⟩) rfl (reads_blk (Blk.new wr 31 _) 6 rfl) (by simp [actC, Value.oneCell']) (by have := hl.out; unfold maxLen; omega) (by have := hl.out; omega) (by have := hb.out.size; simp; omega) ?_; intro v' w1 hown1 hgrow hloc; rw [show actC ⟨2, 0, 1, 0, next, ByteArray.empty⟩ = [.int .i64 2, .int .u64 0, .int .i64 1, .int .u64 0, .int .u64 next, .string ByteArray.empty] from rfl, actL_snoc _ ⟨2, 0, 1, 0, next, ByteArray.empty⟩] at hown1; obtain ⟨g, cap, rfl, hg1, hg2⟩ := hown1.form (by omega); have g1 := (hB.out.alloc (.cells #[.int .i64 2, .int .u64 0, .int .i64 1, .int .u64 0, .int .u64 next, .string ⟨#[]⟩] 31)).grown hgrow (own_ne_blk hown.out hB.out (by decide)); have hb1 := own_below_ (Nat.le_refl _) (Below.more_ hb.out _) (hown.out.alloc _) hgrow; have g10 := g1.cell 0; have f10 := g1.frozen 0; replace g1 := Lib.hid g1; replace hb1 := Lib.hid hb1; replace hown1 := Lib.hid hown1; replace hgrow := Lib.hid hgrow))
          go_roundw
          case rel => exact ⟨2, _, _, by decide, rfl, new_step hbx g1.out hown1.out hb1.out (by simp [verPre, e0])⟩
          case measure => simp [intOf]
      · go_wp2_with fail
        go_roundw
        case rel =>
          have e : verPre epoch next 0 ByteArray.empty 2 = verPre epoch next 0 ByteArray.empty 3 := by simp [verPre]
          exact ⟨3, A, c, by decide, rfl, e ▸ hB.out, e ▸ hown.out, hb.out⟩
        case measure => simp [intOf]
      · go_wp2_with fail
        obtain ⟨ar, hV, har⟩ := new_end hbx hB.out hown.out
        refine bodyPost_ret (v := .pointer (some ⟨w.heap.size + 2, 0, none⟩)) (by simp [results, Try.results131, go_sem]) rfl ⟨_, _, _, rfl, hV, hbx, har, hb.out⟩
  | true =>
    have hN : verTodo epoch next ⟨key, true, value⟩ = verPre epoch next 1 value 3 := by simp [verTodo, verPre]
    have hNV : newVer epoch next ⟨key, true, value⟩ = ⟨verPre epoch next 1 value 3, 0, 0⟩ := by rw [newVer, hN]
    rw [hNV]
    clear hN hNV
    go_enter Try.func131, Try.ntmps131
    go_wp2_with fail
    go_region
    go_wp2_with fail
    go_loopw [32] (fun i wr => NewRel w epoch next 1 value (w.heap.size + 2) i wr) (fun i _ => (3 - intOf i).toNat)
    case atStart =>
      have B1 := (((Blk.new (w.alloc (.cells #[.string key, .bool true, .string value] 58)) 31 #[.int .i64 5, .int .u64 0, .int .i64 3, .int .u64 0, .int .u64 0, .string value]).alloc (.cells #[.slice (some ⟨w.heap.size + 1, 0, none⟩) 1 1, .int .i64 0, .int .u64 0] 230)).alloc (.cells #[.int .u64 epoch, .int .u64 next, .int .u64 1] 238)).drew
      have B2 := ((Blk.new ((w.alloc (.cells #[.string key, .bool true, .string value] 58)).alloc (.cells #[.int .i64 5, .int .u64 0, .int .i64 3, .int .u64 0, .int .u64 0, .string value] 31)) 230 #[.slice (some ⟨w.heap.size + 1, 0, none⟩) 1 1, .int .i64 0, .int .u64 0]).alloc (.cells #[.int .u64 epoch, .int .u64 next, .int .u64 1] 238)).drew
      simp only [World.size_alloc] at B1 B2
      exact ⟨0, some ⟨w.heap.size + 1, 0, none⟩, 1, .inl rfl, rfl, B2, ownsRow_blk B1 6 rfl (by omega), (((((Below.refl _ _).alloc (Nat.le_refl _) _).alloc (by simp) _).alloc (by simp; omega) _).alloc (by simp; omega) _).drew⟩
    case round =>
      obtain ⟨k, A, c, hk, rfl, hB, hown, hb⟩ := hrel
      have c0 := hB.cell 0
      have hbx : w.heap.size ≤ w.heap.size + 2 := by omega
      have hl := verPre_len epoch next 1 value k
      replace hl := Lib.hid hl
      replace hB := Lib.hid hB
      replace hown := Lib.hid hown
      replace hb := Lib.hid hb
      rcases hk with rfl | rfl | rfl | rfl
      · by_cases e0 : epoch = 0
        · subst e0
          go_wp2_with (at_builtin; go_loud (refine wpList_append_any _ rfl _ _ 105 rfl w.heap.size 31 i0 (.agg #[.int .i64 0, .int .u64 0, .int .i64 0, .int .u64 0, .int .u64 0, .string ⟨#[]⟩]) 6 56 Try.underlying105 hi hz0 hz1 hz2 rfl (by decide) _ _ _ rfl (hown.out.alloc _) (wr.heap.size + 1) (some ⟨wr.heap.size, 0, none⟩) 1 1 (actC ⟨2, 0, 0, 0, 0, ByteArray.empty⟩) rfl (reads_blk (Blk.new wr 31 _) 6 rfl) (by simp [actC, Value.oneCell']) (by have := hl.out; unfold maxLen; omega) (by have := hl.out; omega) (by have := hb.out.size; simp; omega) ?_; intro v' w1 hown1 hgrow hloc; rw [show actC ⟨2, 0, 0, 0, 0, ByteArray.empty⟩ = [.int .i64 2, .int .u64 0, .int .i64 0, .int .u64 0, .int .u64 0, .string ByteArray.empty] from rfl, actL_snoc _ ⟨2, 0, 0, 0, 0, ByteArray.empty⟩] at hown1; obtain ⟨g, cap, rfl, hg1, hg2⟩ := hown1.form (by omega); have g1 := (hB.out.alloc (.cells #[.int .i64 2, .int .u64 0, .int .i64 0, .int .u64 0, .int .u64 0, .string ⟨#[]⟩] 31)).grown hgrow (own_ne_blk hown.out hB.out (by decide)); have hb1 := own_below_ (Nat.le_refl _) (Below.more_ hb.out _) (hown.out.alloc _) hgrow; have g10 := g1.cell 0; have f10 := g1.frozen 0; replace g1 := Lib.hid g1; replace hb1 := Lib.hid hb1; replace hown1 := Lib.hid hown1; replace hgrow := Lib.hid hgrow))
          go_roundw
          case rel => exact ⟨1, _, _, by decide, rfl, new_step hbx g1.out hown1.out hb1.out (by simp [verPre])⟩
          case measure => simp [intOf]
        · have d0 : (epoch == 0) = false := by simp [e0]
          go_wp2_with (at_builtin; go_loud (refine wpList_append_any _ rfl _ _ 105 rfl w.heap.size 31 i0 (.agg #[.int .i64 0, .int .u64 0, .int .i64 0, .int .u64 0, .int .u64 0, .string ⟨#[]⟩]) 6 56 Try.underlying105 hi hz0 hz1 hz2 rfl (by decide) _ _ _ rfl (hown.out.alloc _) (wr.heap.size + 1) (some ⟨wr.heap.size, 0, none⟩) 1 1 (actC ⟨2, 0, 0, 0, epoch, ByteArray.empty⟩) rfl (reads_blk (Blk.new wr 31 _) 6 rfl) (by simp [actC, Value.oneCell']) (by have := hl.out; unfold maxLen; omega) (by have := hl.out; omega) (by have := hb.out.size; simp; omega) ?_; intro v' w1 hown1 hgrow hloc; rw [show actC ⟨2, 0, 0, 0, epoch, ByteArray.empty⟩ = [.int .i64 2, .int .u64 0, .int .i64 0, .int .u64 0, .int .u64 epoch, .string ByteArray.empty] from rfl, actL_snoc _ ⟨2, 0, 0, 0, epoch, ByteArray.empty⟩] at hown1; obtain ⟨g, cap, rfl, hg1, hg2⟩ := hown1.form (by omega); have g1 := (hB.out.alloc (.cells #[.int .i64 2, .int .u64 0, .int .i64 0, .int .u64 0, .int .u64 epoch, .string ⟨#[]⟩] 31)).grown hgrow (own_ne_blk hown.out hB.out (by decide)); have hb1 := own_below_ (Nat.le_refl _) (Below.more_ hb.out _) (hown.out.alloc _) hgrow; have g10 := g1.cell 0; have f10 := g1.frozen 0; replace g1 := Lib.hid g1; replace hb1 := Lib.hid hb1; replace hown1 := Lib.hid hown1; replace hgrow := Lib.hid hgrow))
          go_roundw
          case rel => exact ⟨1, _, _, by decide, rfl, new_step hbx g1.out hown1.out hb1.out (by simp [verPre])⟩
          case measure => simp [intOf]
      · by_cases e0 : next = 0
        · subst e0
          go_wp2_with fail
          go_roundw
          case rel =>
            have e : verPre epoch 0 1 value 1 = verPre epoch 0 1 value 2 := by simp [verPre]
            exact ⟨2, A, c, by decide, rfl, e ▸ hB.out, e ▸ hown.out, hb.out⟩
          case measure => simp [intOf]
        · have d0 : (next == 0) = false := by simp [e0]
          go_wp2_with (at_builtin; go_loud (refine wpList_append_any _ rfl _ _ 105 rfl w.heap.size 31 i0 (.agg #[.int .i64 0, .int .u64 0, .int .i64 0, .int .u64 0, .int .u64 0, .string ⟨#[]⟩]) 6 56 Try.underlying105 hi hz0 hz1 hz2 rfl (by decide) _ _ _ rfl (hown.out.alloc _) (wr.heap.size + 1) (some ⟨wr.heap.size, 0, none⟩) 1 1 (actC ⟨2, 0, 1, 0, next, ByteArray.empty⟩) rfl (reads_blk (Blk.new wr 31 _) 6 rfl) (by simp [actC, Value.oneCell']) (by have := hl.out; unfold maxLen; omega) (by have := hl.out; omega) (by have := hb.out.size; simp; omega) ?_; intro v' w1 hown1 hgrow hloc; rw [show actC ⟨2, 0, 1, 0, next, ByteArray.empty⟩ = [.int .i64 2, .int .u64 0, .int .i64 1, .int .u64 0, .int .u64 next, .string ByteArray.empty] from rfl, actL_snoc _ ⟨2, 0, 1, 0, next, ByteArray.empty⟩] at hown1; obtain ⟨g, cap, rfl, hg1, hg2⟩ := hown1.form (by omega); have g1 := (hB.out.alloc (.cells #[.int .i64 2, .int .u64 0, .int .i64 1, .int .u64 0, .int .u64 next, .string ⟨#[]⟩] 31)).grown hgrow (own_ne_blk hown.out hB.out (by decide)); have hb1 := own_below_ (Nat.le_refl _) (Below.more_ hb.out _) (hown.out.alloc _) hgrow; have g10 := g1.cell 0; have f10 := g1.frozen 0; replace g1 := Lib.hid g1; replace hb1 := Lib.hid hb1; replace hown1 := Lib.hid hown1; replace hgrow := Lib.hid hgrow))
          go_roundw
          case rel => exact ⟨2, _, _, by decide, rfl, new_step hbx g1.out hown1.out hb1.out (by simp [verPre, e0])⟩
          case measure => simp [intOf]
      · go_wp2_with (at_builtin; go_loud (refine wpList_append_any _ rfl _ _ 105 rfl w.heap.size 31 i0 (.agg #[.int .i64 0, .int .u64 0, .int .i64 0, .int .u64 0, .int .u64 0, .string ⟨#[]⟩]) 6 56 Try.underlying105 hi hz0 hz1 hz2 rfl (by decide) _ _ _ rfl (hown.out.alloc _) (wr.heap.size + 1) (some ⟨wr.heap.size, 0, none⟩) 1 1 (actC ⟨2, 0, 2, 0, 1, ByteArray.empty⟩) rfl (reads_blk (Blk.new wr 31 _) 6 rfl) (by simp [actC, Value.oneCell']) (by have := hl.out; unfold maxLen; omega) (by have := hl.out; omega) (by have := hb.out.size; simp; omega) ?_; intro v' w1 hown1 hgrow hloc; rw [show actC ⟨2, 0, 2, 0, 1, ByteArray.empty⟩ = [.int .i64 2, .int .u64 0, .int .i64 2, .int .u64 0, .int .u64 1, .string ByteArray.empty] from rfl, actL_snoc _ ⟨2, 0, 2, 0, 1, ByteArray.empty⟩] at hown1; obtain ⟨g, cap, rfl, hg1, hg2⟩ := hown1.form (by omega); have g1 := (hB.out.alloc (.cells #[.int .i64 2, .int .u64 0, .int .i64 2, .int .u64 0, .int .u64 1, .string ⟨#[]⟩] 31)).grown hgrow (own_ne_blk hown.out hB.out (by decide)); have hb1 := own_below_ (Nat.le_refl _) (Below.more_ hb.out _) (hown.out.alloc _) hgrow; have g10 := g1.cell 0; have f10 := g1.frozen 0; replace g1 := Lib.hid g1; replace hb1 := Lib.hid hb1; replace hown1 := Lib.hid hown1; replace hgrow := Lib.hid hgrow))
        go_roundw
        case rel => exact ⟨3, _, _, by decide, rfl, new_step hbx g1.out hown1.out hb1.out (by simp [verPre])⟩
        case measure => simp [intOf]
      · go_wp2_with fail
        obtain ⟨ar, hV, har⟩ := new_end hbx hB.out hown.out
        refine bodyPost_ret (v := .pointer (some ⟨w.heap.size + 2, 0, none⟩)) (by simp [results, Try.results131, go_sem]) rfl ⟨_, _, _, rfl, hV, hbx, har, hb.out⟩
end Go.Proofs.Ytfelkkbgbgnpaaa
