/-
  How names among the arguments are opened (layer 12). No condition.
-/
import Derived.Test.YtpkkjoiglemlgaaGreatDoorFrame
import Derived.Test.YtpkkjoiglemlgaaGreatDoorIdO
import Derived.ChangeSame
namespace Go.Proofs.YtpkkjoiglemlgaaGreatDoor
set_option linter.unusedVariables false
open Go.ChangeShapes Go.WideShapes Go.ChangeAt Go.RowKit
section
variable {H : Type} {enc : TypeId × Value → H}
theorem rec_fieldsI {P : Program} {w : World} {base : Nat} {sp : Nat → Bool} {held : Bool} {fuel : Nat} {t : TypeId} {fs : Array Field} {cs : List Value} {x : DataW H × List MemPlace} (ht : P.underlying t = some (.struct fs)) (h : DataW.trod enc P w base sp held fuel t cs = some x) :
    cs.length = P.cellsOf t ∧ ∀ (i : Nat) (f : Field), fs[i]? = some f → ∃ n y, DataW.trod enc P w base sp held n f.type ((cs.drop f.offset).take (P.cellsOf f.type)) = some y := by
  obtain ⟨xs, n, _, _, hl, hlen, hf⟩ := DataW.trod_struct ht h
  refine ⟨hl, fun i f hi => ?_⟩
  have h1 := hf i f hi
  have h2 : i < fs.size := (Array.getElem?_eq_some_iff.mp hi).1
  exact ⟨n, xs[i]'(by omega), h1.trans (List.getElem?_eq_getElem (by omega))⟩
theorem id_bounds {a : Int} (w0 : (Lit.int .i64 a).wf = true) : -9223372036854775808 ≤ a ∧ a ≤ 9223372036854775807 := by
  have mn : IntKind.i64.min = -9223372036854775808 := by decide +kernel
  have mx : IntKind.i64.max = 9223372036854775807 := by decide +kernel
  simp [Lit.wf, mn, mx] at w0
  omega
set_option maxRecDepth 100000 in
theorem open_id {w : World} {base : Nat} {sp : Nat → Bool} {held : Bool} (n : Nat) (cs : List Value) (y : DataW H × List MemPlace) (hl : cs.length = 2) (h : DataW.trod enc Tryz.prog w base sp held n 23 cs = some y) :
    ∃ x : Int × Int, cs = idCells x ∧ idOk x := by
  obtain ⟨_, hf⟩ := rec_fieldsI Tryz.underlying23 h
  match cs, hl with
  | [c0, c1], _ =>
    obtain ⟨n0, y0, h0⟩ := hf 0 _ rfl
    obtain ⟨n1, y1, h1⟩ := hf 1 _ rfl
    obtain ⟨a0, e0, _, w0⟩ := DataW.trod_int Tryz.underlying3 h0
    obtain ⟨a1, e1, _, w1⟩ := DataW.trod_int Tryz.underlying3 h1
    have e0' : c0 = .int .i64 a0 := by
      have : [c0] = [Value.int .i64 a0] := e0
      injection this
    have e1' : c1 = .int .i64 a1 := by
      have : [c1] = [Value.int .i64 a1] := e1
      injection this
    subst e0' e1'
    exact ⟨(a0, a1), rfl, id_bounds w0, id_bounds w1⟩
set_option maxRecDepth 100000 in
theorem open_idv {w : World} {v : Value} {d : DataW H} {ps : List MemPlace} {b0 : Nat} (hv : Value.okWide Tryz.prog w .any b0 23 v) (h : DataW.Trod enc Tryz.prog w 0 (fun _ => true) true 23 v d ps) :
    ∃ x y : Int, v = .agg #[.int .i64 x, .int .i64 y] ∧ idOk (x, y) := by
  simp only [Value.okWide, Tryz.underlying23] at hv
  obtain ⟨cs, rfl, hsz, _⟩ := hv
  obtain ⟨l⟩ := cs
  match l, hsz with
  | [c0, c1], _ =>
    obtain ⟨fuel, hf0⟩ := h
    obtain ⟨⟨x, y⟩, e, ho⟩ := open_id fuel [c0, c1] _ rfl hf0
    have e : [c0, c1] = [Value.int .i64 x, Value.int .i64 y] := e
    injection e with e0 e1
    injection e1 with e1 _
    subst e0 e1
    exact ⟨x, y, rfl, ho⟩
set_option maxRecDepth 100000 in
theorem open_ids {w : World} {v : Value} {d : DataW H} {ps : List MemPlace} {b0 : Nat} (hv : Value.okWide Tryz.prog w .any b0 57 v) (h : DataW.Trod enc Tryz.prog w 0 (fun _ => true) true 57 v d ps) (hlt : ∀ x ∈ ps, x.block < w.heap.size) :
    ∃ (A : Option Addr) (len cap : Nat) (xs : List (Int × Int)), v = .slice A len cap ∧ len ≤ cap ∧ cap ≤ maxLen ∧ xs.length = len ∧ Reads w w.heap.size 2 A len (xs.flatMap idCells) ∧ ∀ x ∈ xs, idOk x :=
  open_list idCells idOk Tryz.underlying57 (by kernel_rfl) (by omega) (fun _ => rfl) (fun n cs y hl hy => open_id n cs y hl hy) hv h hlt
end
end Go.Proofs.YtpkkjoiglemlgaaGreatDoor
