import Derived.Test.YtmlnhjfdhjachaaGreatReadP
import Derived.Test.YtmlnhjfdhjachaaGreatFindL
import Derived.Test.YtmlnhjfdhjachaaGreatLay
/-
  The bound of a read's acts: the program's, the document's; a routine of the call's own goes alone on a heap of the call's own. No condition.
-/
namespace Go.Proofs.YtmlnhjfdhjachaaGreat
set_option linter.unusedVariables false
open Go.ChangeShapes Go.WideShapes Go.ChangeAt Go.RowKit
open Go.ChangeMaps (setBlock)

def mostP (c : PCfg) (n : Int) : Int := if c.right then c.pins + 2 * c.shelves + 9 + 4 * n else 0
/-- A routine of the call's own goes alone: the heap, and what it leaves alone. -/
theorem ralone {σ : Type} (Rt : Rout σ) {w0 w : World} {hb b B : Nat} {S : PHeap} {s : σ} {F : Nat → Prop} {K : List (Nat × Obj)} (o : OwnK w0 hb S F K w) (hR : RAt Rt B w b s) (hFB : ∀ k, F k → k < B) (hKB : ∀ x ∈ K, x.1 < B) (hB : w0.heap.size ≤ B)
    (hf : S.faults ≤ 1000000000) (hla : S.last ≤ 1000000000) (most : Int) (hm : most ≤ 1000000) :
    Calls Tryz.prog 20 #[.pointer (some ⟨hb, 0, none⟩), .iface Rt.T (.pointer (some ⟨b, 0, none⟩)), .int .i64 most] w fun e w' => ∃ xs S' s' F' D', Runs Rt S s xs S' s' ∧ (most ≤ (xs.length : Nat) ∨ Rt.can S' s' = false) ∧
      e = .returned (.tuple #[.int .i64 (xs.length : Nat), .bool (!(Rt.act s').2)]) ∧ OwnK w0 hb S' F' K w' ∧ Rt.R w' D' b s' ∧ Off F' D' := by
  obtain ⟨D, hRD, hD⟩ := hR
  refine (alone_own Rt o.own hRD (fun k h1 h2 => by have := hFB k h1; have := hD k h2; omega) (fun k hk => Nat.le_trans hB (hD k hk)) hf hla most hm).mono ?_
  rintro e w' ⟨xs, S', s', F', D', h1, h2, _, h3, o', h4, h5, h6, h7⟩
  refine ⟨xs, S', s', F', D', h1, h2, h3, ⟨o', fun x hx => ?_⟩, h4, h7⟩
  have hxB := hKB x hx
  have hk := o.keep x hx
  have hlt := o.lt hx
  refine ⟨(h6.block _ hlt fun h => ?_).trans hk.1, fun h => ?_⟩
  · rcases h with h | h
    · exact hk.2 h
    · have := hD _ h; omega
  · rcases h5 _ (.inl h) with h8 | h8 | h8
    · exact hk.2 h8
    · have := hD _ h8; omega
    · omega
end Go.Proofs.YtmlnhjfdhjachaaGreat

/-
  The examples of the law of reading (layer 26). No condition.
-/
namespace Go.Proofs.YtmlnhjfdhjachaaGreat
set_option linter.unusedVariables false
open Go.ChangeShapes Go.WideShapes Go.ChangeAt Go.RowKit
open Go.ChangeMaps (setBlock)

theorem tinyVR : tinyC.val = .agg #[.int .i64 2, .int .i64 2, .int .i64 3, .int .i64 2, .int .i64 1, .int .u64 0] := rfl
def toldC (s : PRead) : Array Value := if s.part = 5 then #[.int .i64 s.code, .int .i64 0, .int .i64 0, .bool s.took, .string s.value, .slice none 0 0, .int .i64 0, .slice none 0 0, .int .i64 s.mark, .int .u64 0] else #[.int .i64 0, .int .i64 0, .int .i64 0, .bool false, .string ⟨#[]⟩, .slice none 0 0, .int .i64 0, .slice none 0 0, .int .i64 0, .int .u64 0]
theorem readResult_in {w : World} {Q : Nat → Prop} {b : Nat} {s : PRead} (h : ReadIn w Q b s) : Calls Tryz.prog 21 #[.pointer (some ⟨b, 0, none⟩)] w fun e w' => e = .returned (.tuple #[.agg (toldC s), .bool (decide (s.part = 5))]) ∧ Below w.heap.size w w' := by
  obtain ⟨pv, fv, cv, hB, _⟩ := h
  exact readResult_any hB
def kText : ByteArray := ⟨#[107]⟩
theorem fresh_look (c : PCfg) (hc : c.Right) (key : ByteArray) : lookP key (plN c key) (fun _ => none) c.shelves.toNat 0 = (2, ((plN c key 0 : Nat) : Int), 1) := by
  have h := hc.shelves
  obtain ⟨d, hd⟩ : ∃ d, c.shelves.toNat = d + 1 := ⟨c.shelves.toNat - 1, by omega⟩
  rw [hd]
  rfl
theorem put_look (c : PCfg) (hc : c.Right) (key : ByteArray) : lookP key (plN c key) (putT (fun _ => none) (plN c key 0) key) c.shelves.toNat 0 = (1, ((plN c key 0 : Nat) : Int), 2) := by
  have h := hc.shelves
  obtain ⟨d, hd⟩ : ∃ d, c.shelves.toNat = d + 1 := ⟨c.shelves.toNat - 1, by omega⟩
  rw [hd]
  unfold lookP
  simp [putT]
end Go.Proofs.YtmlnhjfdhjachaaGreat
