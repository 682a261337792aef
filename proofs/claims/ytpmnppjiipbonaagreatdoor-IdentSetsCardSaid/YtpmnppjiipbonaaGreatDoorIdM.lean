/-
  Two sets and a row of names, all of the call's own, each apart from the others: what each of the law's calls does. No condition.
-/
import Derived.Test.YtpmnppjiipbonaaGreatDoorIdQ
import Derived.Test.YtpmnppjiipbonaaGreatDoorIdA
namespace Go.Proofs.YtpmnppjiipbonaaGreatDoor
set_option linter.unusedVariables false
open Go.ChangeShapes Go.WideShapes Go.ChangeAt Go.RowKit Go.Extern.Stop Go.Stop Go.Extern

structure Mem12 (w0 w : World) (b ub : Nat) (c : Int) (v : Value) (ms ss us : List (Int × Int)) : Prop where
  ex : ∃ Fs Fu, SetIs w b Fs c ss ∧ SetIs w ub Fu c us ∧ (∀ k, Fs k → w0.heap.size ≤ k) ∧ (∀ k, Fu k → w0.heap.size ≤ k) ∧ (∀ k, Fs k → ¬ Fu k) ∧ (∀ g, v.ownBlock = some g → ¬ Fs g ∧ ¬ Fu g)
  row : w.ownsRow w0.heap.size 23 2 v ms.length (ms.flatMap idCells)
  below : Below w0.heap.size w0 w
variable {w0 w w' : World} {b ub : Nat} {c d : Int} {v : Value} {ms ss us : List (Int × Int)}
theorem Mem12.keep (h : Mem12 w0 w b ub c v ms ss us) (hb : Below w.heap.size w w') : Mem12 w0 w' b ub c v ms ss us := by
  obtain ⟨Fs, Fu, h1, h2, h3, h4, h5, h6⟩ := h.ex
  exact ⟨⟨Fs, Fu, h1.below hb, h2.below hb, h3, h4, h5, h6⟩, own_keepI h.row hb, Below.next_ h.below hb⟩
theorem Mem12.more (h : Mem12 w0 w b ub c v ms ss us) (hd : c ≤ d) : Mem12 w0 w b ub d v ms ss us := by
  obtain ⟨Fs, Fu, h1, h2, h3⟩ := h.ex
  exact ⟨⟨Fs, Fu, h1.more hd, h2.more hd, h3⟩, h.row, h.below⟩
theorem Mem12.addS (h : Mem12 w0 w b ub c v ms ss us) (hc0 : 0 ≤ c) (hc1 : c < 1000000) (x y : Int) (hk : idOk (x, y)) :
    Calls Tryz.prog 21 #[.pointer (some ⟨b, 0, none⟩), .agg #[.int .i64 x, .int .i64 y]] w fun e w' => e = .returned (.bool (!decide ((x, y) ∈ ss))) ∧ Mem12 w0 w' b ub (c + 1) v ms (addIds ss (x, y)) us := by
  obtain ⟨Fs, Fu, h1, h2, h3, h4, h5, h6⟩ := h.ex
  refine (setAdd_any h1 hc0 (by omega) x y hk).mono ?_
  rintro e w' ⟨rfl, t1, t2⟩
  refine ⟨rfl, ⟨nw Fs w w', Fu, t1, (h2.keep t2.size fun k hk => t2.block k (h2.own k hk) fun hf => h5 k hf hk).more (by omega), fun k hk => hk.elim (h3 k) fun hk => Nat.le_trans h.below.size hk.1, h4, fun k hk hu => hk.elim (fun hf => h5 k hf hu) fun hk => absurd (h2.own k hu) (by omega), fun g hg => ⟨fun hk => hk.elim (h6 g hg).1 fun hk => absurd (World.ownsRow.lt h.row g hg).2 (by omega), (h6 g hg).2⟩⟩, row_keepI h.row fun g hg => t2.block g (World.ownsRow.lt h.row g hg).2 (h6 g hg).1, h.below.trans (t2.below h3 h.below.size)⟩
theorem Mem12.addU (h : Mem12 w0 w b ub c v ms ss us) (hc0 : 0 ≤ c) (hc1 : c < 1000000) (x y : Int) (hk : idOk (x, y)) :
    Calls Tryz.prog 21 #[.pointer (some ⟨ub, 0, none⟩), .agg #[.int .i64 x, .int .i64 y]] w fun e w' => e = .returned (.bool (!decide ((x, y) ∈ us))) ∧ Mem12 w0 w' b ub (c + 1) v ms ss (addIds us (x, y)) := by
  obtain ⟨Fs, Fu, h1, h2, h3, h4, h5, h6⟩ := h.ex
  refine (setAdd_any h2 hc0 (by omega) x y hk).mono ?_
  rintro e w' ⟨rfl, t1, t2⟩
  refine ⟨rfl, ⟨Fs, nw Fu w w', (h1.keep t2.size fun k hk => t2.block k (h1.own k hk) fun hf => h5 k hk hf).more (by omega), t1, h3, fun k hk => hk.elim (h4 k) fun hk => Nat.le_trans h.below.size hk.1, fun k hs hk => hk.elim (fun hf => h5 k hs hf) fun hk => absurd (h1.own k hs) (by omega), fun g hg => ⟨(h6 g hg).1, fun hk => hk.elim (h6 g hg).2 fun hk => absurd (World.ownsRow.lt h.row g hg).2 (by omega)⟩⟩, row_keepI h.row fun g hg => t2.block g (World.ownsRow.lt h.row g hg).2 (h6 g hg).2, h.below.trans (t2.below h4 h.below.size)⟩
theorem Mem12.dropS (h : Mem12 w0 w b ub c v ms ss us) (x y : Int) (hk : idOk (x, y)) :
    Calls Tryz.prog 24 #[.pointer (some ⟨b, 0, none⟩), .agg #[.int .i64 x, .int .i64 y]] w fun e w' => e = .returned (.bool (decide ((x, y) ∈ ss))) ∧ Mem12 w0 w' b ub c v ms (ss.filter fun k => k != (x, y)) us := by
  obtain ⟨Fs, Fu, h1, h2, h3, h4, h5, h6⟩ := h.ex
  refine (setDrop_any h1 x y hk).mono ?_
  rintro e w' ⟨rfl, t1, t2⟩
  refine ⟨rfl, ⟨nw Fs w w', Fu, t1, h2.keep t2.size fun k hk => t2.block k (h2.own k hk) fun hf => h5 k hf hk, fun k hk => hk.elim (h3 k) fun hk => Nat.le_trans h.below.size hk.1, h4, fun k hk hu => hk.elim (fun hf => h5 k hf hu) fun hk => absurd (h2.own k hu) (by omega), fun g hg => ⟨fun hk => hk.elim (h6 g hg).1 fun hk => absurd (World.ownsRow.lt h.row g hg).2 (by omega), (h6 g hg).2⟩⟩, row_keepI h.row fun g hg => t2.block g (World.ownsRow.lt h.row g hg).2 (h6 g hg).1, h.below.trans (t2.below h3 h.below.size)⟩
theorem Mem12.dropU (h : Mem12 w0 w b ub c v ms ss us) (x y : Int) (hk : idOk (x, y)) :
    Calls Tryz.prog 24 #[.pointer (some ⟨ub, 0, none⟩), .agg #[.int .i64 x, .int .i64 y]] w fun e w' => e = .returned (.bool (decide ((x, y) ∈ us))) ∧ Mem12 w0 w' b ub c v ms ss (us.filter fun k => k != (x, y)) := by
  obtain ⟨Fs, Fu, h1, h2, h3, h4, h5, h6⟩ := h.ex
  refine (setDrop_any h2 x y hk).mono ?_
  rintro e w' ⟨rfl, t1, t2⟩
  refine ⟨rfl, ⟨Fs, nw Fu w w', h1.keep t2.size fun k hk => t2.block k (h1.own k hk) fun hf => h5 k hk hf, t1, h3, fun k hk => hk.elim (h4 k) fun hk => Nat.le_trans h.below.size hk.1, fun k hs hk => hk.elim (fun hf => h5 k hs hf) fun hk => absurd (h1.own k hs) (by omega), fun g hg => ⟨(h6 g hg).1, fun hk => hk.elim (h6 g hg).2 fun hk => absurd (World.ownsRow.lt h.row g hg).2 (by omega)⟩⟩, row_keepI h.row fun g hg => t2.block g (World.ownsRow.lt h.row g hg).2 (h6 g hg).2, h.below.trans (t2.below h4 h.below.size)⟩
theorem Mem12.hasS (h : Mem12 w0 w b ub c v ms ss us) (x y : Int) (hk : idOk (x, y)) :
    Calls Tryz.prog 23 #[.pointer (some ⟨b, 0, none⟩), .agg #[.int .i64 x, .int .i64 y]] w fun e w' => e = .returned (.bool (decide ((x, y) ∈ ss))) ∧ Mem12 w0 w' b ub c v ms ss us := by
  obtain ⟨Fs, Fu, h1, h2, _⟩ := h.ex
  exact (setHas_any h1 x y hk).mono fun _ _ ⟨he, hb⟩ => ⟨he, h.keep hb⟩
theorem Mem12.lists (h : Mem12 w0 w b ub c v ms ss us) : ∃ B cp, v = .slice B ms.length cp ∧ Reads w w.heap.size 2 B ms.length (ms.flatMap idCells) := by
  obtain ⟨B, cp, rfl⟩ := slice_ownI h.row
  exact ⟨B, cp, rfl, Reads.of_own h.row⟩
theorem Mem12.has (h : Mem12 w0 w b ub c v ms ss us) (hn : ms.length ≤ 1000000) (x y : Int) :
    Calls Tryz.prog 22 #[v, .agg #[.int .i64 x, .int .i64 y]] w fun e w' => e = .returned (.bool (decide ((x, y) ∈ ms))) ∧ Mem12 w0 w' b ub c v ms ss us := by
  obtain ⟨B, cp, rfl, hr⟩ := h.lists
  exact (refHas_any rfl hn hr x y).mono fun _ _ ⟨he, hb⟩ => ⟨he, h.keep hb⟩
/-- Another row in its place. -/
theorem Mem12.swap (h : Mem12 w0 w b ub c v ms ss us) (hb : Below w.heap.size w w') {B : Option Addr} {cp : Nat} {ms' : List (Int × Int)} (ho : w'.ownsRow w.heap.size 23 2 (.slice B ms'.length cp) ms'.length (ms'.flatMap idCells)) : Mem12 w0 w' b ub c (.slice B ms'.length cp) ms' ss us := by
  have hsz := h.below.size
  have k := h.keep hb
  obtain ⟨Fs, Fu, h1, h2, h3, h4, h5, _⟩ := h.ex
  exact ⟨⟨Fs, Fu, h1.below hb, h2.below hb, h3, h4, h5, fun g hg => ⟨fun hf => absurd (World.ownsRow.lt ho g hg).1 (by have := h1.own g hf; omega), fun hf => absurd (World.ownsRow.lt ho g hg).1 (by have := h2.own g hf; omega)⟩⟩, ⟨ho.1, ho.2.imp id fun ⟨g, cap, cur, e1, e2, r⟩ => ⟨g, cap, cur, e1, by omega, r⟩⟩, k.below⟩
theorem Mem12.add (h : Mem12 w0 w b ub c v ms ss us) (hn : ms.length ≤ 1000000) (x y : Int) :
    Calls Tryz.prog 20 #[v, .agg #[.int .i64 x, .int .i64 y]] w fun e w' => ∃ v', e = .returned v' ∧ Mem12 w0 w' b ub c v' (addL (x, y) ms) ss us := by
  obtain ⟨B, cp, rfl, hr⟩ := h.lists
  refine (refAdd_any rfl hn hr x y).mono ?_
  rintro e w' ⟨B', c', rfl, ho, hb⟩
  exact ⟨_, rfl, h.swap hb ho⟩
theorem Mem12.drop (h : Mem12 w0 w b ub c v ms ss us) (hn : ms.length ≤ 1000000) (x y : Int) :
    Calls Tryz.prog 25 #[v, .agg #[.int .i64 x, .int .i64 y]] w fun e w' => ∃ v', e = .returned v' ∧ Mem12 w0 w' b ub c v' (ms.filter fun p => p != (x, y)) ss us := by
  obtain ⟨B, cp, rfl, hr⟩ := h.lists
  refine (refDrop_any rfl hn hr x y).mono ?_
  rintro e w' ⟨B', c', rfl, ho, hb⟩
  exact ⟨_, rfl, h.swap hb ho⟩
theorem Mem12.allS (h : Mem12 w0 w b ub c v ms ss us) (ha : Alike12 ms ss) (hn : ms.length ≤ 100000) :
    Calls Tryz.prog 27 #[.pointer (some ⟨b, 0, none⟩)] w fun e w' => ∃ v', e = .returned v' ∧ Mem12 w0 w' b ub c v ms ss us ∧ Calls Tryz.prog 26 #[v', v] w' fun e w2 => e = .returned (.bool true) ∧ Mem12 w0 w2 b ub c v ms ss us := by
  obtain ⟨Fs, Fu, h1, h2, _⟩ := h.ex
  have hl := ha.len
  obtain ⟨B, cp, rfl, _⟩ := h.lists
  refine (setAll_any h1 (by omega)).mono ?_
  rintro e w' ⟨A, c', rfl, ho, hb⟩
  rw [ha.sort, ← hl] at ho
  have k := h.keep hb
  refine ⟨_, rfl, k, ?_⟩
  rw [← hl]
  exact (refSameI_any rfl (by omega) (Reads.of_own ho) (Reads.of_own k.row)).mono fun _ _ ⟨he, hb2⟩ => ⟨he, k.keep hb2⟩
theorem Mem12.allU (h : Mem12 w0 w b ub c v ms ss us) (ha : Alike12 ms us) (hn : ms.length ≤ 100000) :
    Calls Tryz.prog 27 #[.pointer (some ⟨ub, 0, none⟩)] w fun e w' => ∃ v', e = .returned v' ∧ Mem12 w0 w' b ub c v ms ss us ∧ Calls Tryz.prog 26 #[v', v] w' fun e w2 => e = .returned (.bool true) ∧ Mem12 w0 w2 b ub c v ms ss us := by
  obtain ⟨Fs, Fu, h1, h2, _⟩ := h.ex
  have hl := ha.len
  obtain ⟨B, cp, rfl, _⟩ := h.lists
  refine (setAll_any h2 (by omega)).mono ?_
  rintro e w' ⟨A, c', rfl, ho, hb⟩
  rw [ha.sort, ← hl] at ho
  have k := h.keep hb
  refine ⟨_, rfl, k, ?_⟩
  rw [← hl]
  exact (refSameI_any rfl (by omega) (Reads.of_own ho) (Reads.of_own k.row)).mono fun _ _ ⟨he, hb2⟩ => ⟨he, k.keep hb2⟩
end Go.Proofs.YtpmnppjiipbonaaGreatDoor
