/-
  Routines, and who goes next: drive.Next for any routine that is told by its acts and what it takes. No condition.
-/
import Derived.Test.YtpldnbdcpihjcaaReady
import Derived.Outline
namespace Go.Proofs.Ytpldnbdcpihjcaa
set_option linter.unusedVariables false
open Go.ChangeShapes Go.WideShapes Go.ChangeAt Go.RowKit
open Go.ChangeMaps (setBlock)

def PGot.Ok (g : PGot) : Prop := 0 ≤ g.word ∧ g.word ≤ 18446744073709551615
theorem nth_ok {w : World} {hb : Nat} {S : PHeap} {F : Nat → Prop} (h : HeapIn w hb S F) (b i : Int) : 0 ≤ S.word b i ∧ S.word b i ≤ 18446744073709551615 := by
  unfold PHeap.word
  cases hx : S.find b with
  | none => simp
  | some x =>
    simp only [PBlk.nth, List.getD_eq_getElem?_getD]
    cases hg : x.cells[i.toNat]? with
    | none => simp
    | some z => exact (h.span x (find_mem hx).1).2.2.2 z (List.mem_of_getElem? hg)
theorem act_ok {w : World} {hb : Nat} {S : PHeap} {F : Nat → Prop} (h : HeapIn w hb S F) (hla : S.last < 9223372036854775807) (x : PAct) (r : Nat) : (S.act x r).1.Ok := by
  have hw := nth_ok h x.block x.cell
  have hl0 := h.last0
  have h0 : PGot.Ok ⟨0, ByteArray.empty⟩ := ⟨Int.le_refl _, by decide⟩
  unfold PHeap.act
  split
  · exact h0
  · split
    · unfold PHeap.load; split
      · exact hw
      · exact h0
    · split
      · exact h0
      · split
        · unfold PHeap.swap; split
          · exact hw
          · exact h0
        · split
          · unfold PHeap.bump; split
            · exact hw
            · exact h0
          · split
            · unfold PHeap.make; split
              · exact ⟨by show 0 ≤ S.last + 1; omega, by show S.last + 1 ≤ _; omega⟩
              · exact h0
            · split
              · exact ⟨Int.le_refl _, by show (0 : Int) ≤ 18446744073709551615; decide⟩
              · split
                · exact h0
                · split
                  · show 0 ≤ (if S.locked then (0 : Int) else 1) ∧ (if S.locked then (0 : Int) else 1) ≤ 18446744073709551615
                    split <;> omega
                  · split
                    · exact h0
                    · exact h0
/-- A kind of routines: how one lies in memory, what it asks and what it takes. -/
structure Rout (σ : Type) where
  T : TypeId
  fAct : Nat
  fTake : Nat
  mAct : ∀ (a : Addr) (w : World), (Go.method 294 T (.pointer (some a)) "Act").run Try.prog w = .ok (fAct, .pointer (some a)) w
  mTake : ∀ (a : Addr) (w : World), (Go.method 294 T (.pointer (some a)) "Take").run Try.prog w = .ok (fTake, .pointer (some a)) w
  nAct : ∀ (a : Addr) (w : World), (nilAhead 294 T (.pointer (some a)) "Act").run Try.prog w = .ok (some false) w
  nTake : ∀ (a : Addr) (w : World), (nilAhead 294 T (.pointer (some a)) "Take").run Try.prog w = .ok (some false) w
  eAct : ∀ args w, (callFunc fAct args).run Try.prog w = .ok (.enter fAct args) w
  eTake : ∀ args w, (callFunc fTake args).run Try.prog w = .ok (.enter fTake args) w
  R : World → (Nat → Prop) → Nat → σ → Prop
  own : ∀ {w G b s}, R w G b s → In G w
  hG : ∀ {w G b s}, R w G b s → G b
  keep : ∀ {w w' G b s}, R w G b s → w.heap.size ≤ w'.heap.size → (∀ k, G k → w'.heap[k]? = w.heap[k]?) → R w' G b s
  act : σ → PAct × Bool
  take : σ → PGot → σ
  okA : ∀ {w G b s}, R w G b s → (act s).1.Ok
  cAct : ∀ {w G b s}, R w G b s → Calls Try.prog fAct #[.pointer (some ⟨b, 0, none⟩)] w fun e w' => e = .returned (.tuple #[(act s).1.val, .bool (act s).2]) ∧ Below w.heap.size w w'
  cTake : ∀ {w G b s} (g : PGot), R w G b s → g.Ok → Calls Try.prog fTake #[.pointer (some ⟨b, 0, none⟩), g.val] w fun e w' => e = .returned (.tuple #[]) ∧ R w' (nw G w w') b (take s g) ∧ Chg G w w'

theorem gen_world {α : World → Prop} (Pw : World → Prop) {W : World} (h : Pw W) (k : ∀ W', Pw W' → α W') : α W := k W h
section
variable {σ : Type} (Rt : Rout σ)
theorem Rout.below {w w' : World} {G : Nat → Prop} {b : Nat} {s : σ} (h : Rt.R w G b s) (hb : Below w.heap.size w w') : Rt.R w' G b s := Rt.keep h hb.size fun k hk => hb.block k (Rt.own h k hk)
theorem next1_any {w : World} {G : Nat → Prop} {b : Nat} {s : σ} (h : Rt.R w G b s) :
    Calls Try.prog 84 #[.iface Rt.T (.pointer (some ⟨b, 0, none⟩))] w fun e w' => e = .returned (.tuple #[(Rt.act s).1.val, .bool (Rt.act s).2]) ∧ Below w.heap.size w w' := by
  have hm := Rt.mAct
  have hn := Rt.nAct
  have he := Rt.eAct
  have hz : Below w.heap.size w (w.alloc (.cells #[.int .i64 0, .int .u64 0, .int .i64 0, .int .u64 0, .int .u64 0, .string ⟨#[]⟩] 31)) := (Below.refl _ _).alloc (Nat.le_refl _) _
  have hC := Rt.cAct (Rt.below h hz)
  rcases hx : (Rt.act s).1 with ⟨k, bb, c, o, n, t⟩
  have hv : PAct.val ⟨k, bb, c, o, n, t⟩ = .agg #[.int .i64 k, .int .u64 bb, .int .i64 c, .int .u64 o, .int .u64 n, .string t] := rfl
  rw [hx, hv] at hC
  rw [hv]
  clear hv hx
  generalize (Rt.act s).2 = mo at *
  have B1 := Blk.new w 31 #[.int .i64 0, .int .u64 0, .int .i64 0, .int .u64 0, .int .u64 0, .string ⟨#[]⟩]
  replace hC := Lib.hid hC
  replace hz := Lib.hid hz
  replace B1 := Lib.hid B1
  replace h := Lib.hid h
  go_enter Try.func84, Try.ntmps84
  go_wp2_with fail
  refine (hC.out).mono ?_; rintro e w1 ⟨rfl, hb1⟩
  have g1 := B1.out.below hb1 (by simp)
  have hB1 := nx hz.out (Nat.le_refl _) hb1
  have c0 := g1.cell 0
  have c1 := g1.cell 1
  have c2 := g1.cell 2
  have c3 := g1.cell 3
  have c4 := g1.cell 4
  have c5 := g1.cell 5
  have f0 := g1.frozen 0
  have f1 := g1.frozen 1
  have f2 := g1.frozen 2
  have f3 := g1.frozen 3
  have f4 := g1.frozen 4
  have f5 := g1.frozen 5
  clear hb1
  replace g1 := Lib.hid g1
  replace hB1 := Lib.hid hB1
  go_wp2_with fail
  clear c0 c1 c2 c3 c4 c5 f0 f1 f2 f3 f4 f5
  refine gen_world (α := fun W' => bodyPost _ _ _ _ _ W') (fun W' => Blk W' w.heap.size 31 #[.int .i64 k, .int .u64 bb, .int .i64 c, .int .u64 o, .int .u64 n, .string t] ∧ Below w.heap.size w W') ⟨Blk.eq_cs ((((((g1.out.set_ 0 _).set_ 1 _).set_ 2 _).set_ 3 _).set_ 4 _).set_ 5 _) rfl, ?_⟩ ?_
  · repeat (refine Below.setCell ?_ (by exact Nat.le_refl _) _)
    exact hB1.out
  rintro W' ⟨g2, hB2⟩
  have c0 := g2.cell 0
  have c1 := g2.cell 1
  have c2 := g2.cell 2
  have c3 := g2.cell 3
  have c4 := g2.cell 4
  have c5 := g2.cell 5
  refine bodyPost_ret (v := .tuple #[.agg #[.int .i64 k, .int .u64 bb, .int .i64 c, .int .u64 o, .int .u64 n, .string t], .bool mo]) (by simp [results, Try.results84, go_sem, c0, c1, c2, c3, c4, c5]) rfl ⟨rfl, hB2⟩
/-- What a step is, as a value. -/
def stepV (who : Int) (x : PAct) (g : PGot) : Value := .agg #[.int .i64 who, .int .i64 x.kind, .int .u64 x.block, .int .i64 x.cell, .int .u64 x.old, .int .u64 x.new, .string x.text, .int .u64 g.word, .string g.text]
def noAct : PAct := ⟨0, 0, 0, 0, 0, ByteArray.empty⟩
def noGot : PGot := ⟨0, ByteArray.empty⟩
/-- May a routine go on? -/
def Rout.can (S : PHeap) (s : σ) : Bool := (Rt.act s).2 && S.ready (Rt.act s).1
/-- What a step leaves: the heap, the routine; apart. -/
structure Went (F G : Nat → Prop) (hb b : Nat) (S : PHeap) (s : σ) (w w' : World) : Prop where
  ex : ∃ F' G', HeapIn w' hb S F' ∧ Rt.R w' G' b s ∧ Off F' G' ∧ ∀ k, F' k ∨ G' k → (F k ∨ G k) ∨ w.heap.size ≤ k
  chg : Chg (fun k => F k ∨ G k) w w'
end
end Go.Proofs.Ytpldnbdcpihjcaa
