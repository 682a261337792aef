/-
  How an operation among the arguments is opened (layer 9). No condition.
-/
import Derived.Test.YtpmnppjiipbonaaDoorDHandle
import Derived.Test.YtpmnppjiipbonaaDoorOpW
import Derived.ChangeSame
namespace Go.Proofs.YtpmnppjiipbonaaDoor
set_option linter.unusedVariables false
open Go.ChangeShapes Go.WideShapes Go.ChangeAt Go.RowKit
section
variable {H : Type} {enc : TypeId × Value → H}
theorem rec_fields {P : Program} {w : World} {base : Nat} {sp : Nat → Bool} {held : Bool} {fuel : Nat} {t : TypeId} {fs : Array Field} {cs : List Value} {x : DataW H × List MemPlace} (ht : P.underlying t = some (.struct fs)) (h : DataW.trod enc P w base sp held fuel t cs = some x) :
    cs.length = P.cellsOf t ∧ ∀ (i : Nat) (f : Field), fs[i]? = some f → ∃ n y, DataW.trod enc P w base sp held n f.type ((cs.drop f.offset).take (P.cellsOf f.type)) = some y := by
  obtain ⟨xs, n, _, _, hl, hlen, hf⟩ := DataW.trod_struct ht h
  refine ⟨hl, fun i f hi => ?_⟩
  have h1 := hf i f hi
  have h2 : i < fs.size := (Array.getElem?_eq_some_iff.mp hi).1
  exact ⟨n, xs[i]'(by omega), h1.trans (List.getElem?_eq_getElem (by omega))⟩
set_option maxRecDepth 100000 in
theorem open_guard {w : World} {base : Nat} {sp : Nat → Bool} {held : Bool} (n : Nat) (cs : List Value) (y : DataW H × List MemPlace) (hl : cs.length = 3) (h : DataW.trod enc Tryd.prog w base sp held n 90 cs = some y) :
    ∃ x : OGuard, cs = gCells x ∧ True := by
  obtain ⟨_, hf⟩ := rec_fields Tryd.underlying90 h
  match cs, hl with
  | [c0, c1, c2], _ =>
    obtain ⟨n0, y0, h0⟩ := hf 0 _ rfl
    obtain ⟨n1, y1, h1⟩ := hf 1 _ rfl
    obtain ⟨n2, y2, h2⟩ := hf 2 _ rfl
    obtain ⟨a0, e0, _, w0⟩ := DataW.trod_int Tryd.underlying3 h0
    obtain ⟨a1, e1, _, w1⟩ := DataW.trod_string Tryd.underlying9 h1
    obtain ⟨a2, e2, _, w2⟩ := DataW.trod_string Tryd.underlying9 h2
    have e0' : c0 = .int .i64 a0 := by
      have : [c0] = [Value.int .i64 a0] := e0
      injection this
    have e1' : c1 = .string a1 := by
      have : [c1] = [Value.string a1] := e1
      injection this
    have e2' : c2 = .string a2 := by
      have : [c2] = [Value.string a2] := e2
      injection this
    subst e0' e1' e2'
    exact ⟨⟨a0, a1, a2⟩, rfl, trivial⟩
set_option maxRecDepth 100000 in
theorem open_step {w : World} {base : Nat} {sp : Nat → Bool} {held : Bool} (n : Nat) (cs : List Value) (y : DataW H × List MemPlace) (hl : cs.length = 5) (h : DataW.trod enc Tryd.prog w base sp held n 92 cs = some y) :
    ∃ x : OStep, cs = sCells x ∧ sFit x := by
  obtain ⟨_, hf⟩ := rec_fields Tryd.underlying92 h
  match cs, hl with
  | [c0, c1, c2, c3, c4], _ =>
    obtain ⟨n0, y0, h0⟩ := hf 0 _ rfl
    obtain ⟨n1, y1, h1⟩ := hf 1 _ rfl
    obtain ⟨n2, y2, h2⟩ := hf 2 _ rfl
    obtain ⟨n3, y3, h3⟩ := hf 3 _ rfl
    obtain ⟨n4, y4, h4⟩ := hf 4 _ rfl
    obtain ⟨a0, e0, _, w0⟩ := DataW.trod_int Tryd.underlying3 h0
    obtain ⟨a1, e1, _, w1⟩ := DataW.trod_string Tryd.underlying9 h1
    obtain ⟨a2, e2, _, w2⟩ := DataW.trod_string Tryd.underlying9 h2
    obtain ⟨a3, e3, _, w3⟩ := DataW.trod_string Tryd.underlying9 h3
    obtain ⟨a4, e4, _, w4⟩ := DataW.trod_int Tryd.underlying2 h4
    have e0' : c0 = .int .i64 a0 := by
      have : [c0] = [Value.int .i64 a0] := e0
      injection this
    have e1' : c1 = .string a1 := by
      have : [c1] = [Value.string a1] := e1
      injection this
    have e2' : c2 = .string a2 := by
      have : [c2] = [Value.string a2] := e2
      injection this
    have e3' : c3 = .string a3 := by
      have : [c3] = [Value.string a3] := e3
      injection this
    have e4' : c4 = .int .i64 a4 := by
      have : [c4] = [Value.int .i64 a4] := e4
      injection this
    subst e0' e1' e2' e3' e4'
    exact ⟨⟨a0, a1, a2, a3, a4⟩, rfl, bounds_i64 w4⟩
set_option maxRecDepth 100000 in
theorem open_opv {w : World} {v : Value} {d : DataW H} {ps : List MemPlace} {b0 : Nat} (hv : Value.okWide Tryd.prog w .any b0 44 v) (h : DataW.Trod enc Tryd.prog w 0 (fun _ => true) true 44 v d ps) (hlt : ∀ x ∈ ps, x.block < w.heap.size) :
    ∃ o : OOp, OpIs w v o ∧ (∀ x ∈ o.steps, sFit x) ∧ o.guards.length ≤ maxLen ∧ o.steps.length ≤ maxLen := by
  simp only [Value.okWide, Tryd.underlying44] at hv
  obtain ⟨cs, rfl, hsz, ts, hts, _, hc⟩ := hv
  obtain rfl : ts = [41, 42] := Option.some.inj (hts.symm.trans (by kernel_rfl))
  obtain ⟨l⟩ := cs
  match l, hsz with
  | [c0, c1], _ =>
    obtain ⟨fuel, hf0⟩ := h
    obtain ⟨y0, y1, n, e, _, h0, h1⟩ := trod_struct2 Tryd.underlying44 hf0
    have h0 : DataW.trod enc Tryd.prog w 0 (fun _ => true) true n 41 [c0] = some y0 := h0
    have h1 : DataW.trod enc Tryd.prog w 0 (fun _ => true) true n 42 [c1] = some y1 := h1
    obtain ⟨u0, hu0, k0⟩ := hc 0 c0 rfl
    obtain ⟨u1, hu1, k1⟩ := hc 1 c1 rfl
    obtain rfl : 41 = u0 := by simpa using hu0
    obtain rfl : 42 = u1 := by simpa using hu1
    have k0 : Value.okWide Tryd.prog w .any b0 41 c0 := by simpa only [Value.okWide, Tryd.underlying41] using k0
    have k1 : Value.okWide Tryd.prog w .any b0 42 c1 := by simpa only [Value.okWide, Tryd.underlying42] using k1
    obtain ⟨b, len, cap, rfl⟩ := okWide_slice Tryd.underlying41 k0
    obtain ⟨b', len', cap', rfl⟩ := okWide_slice Tryd.underlying42 k1
    injection e with _ e
    obtain ⟨A, m, c, gs, e1, e2, e3, e4, e5, _⟩ := open_list (d := y0.1) (ps := y0.2) gCells (fun _ => True) Tryd.underlying41 (by kernel_rfl) (by omega) (fun _ => rfl) (fun n cs y hl hy => open_guard n cs y hl hy) k0 ⟨n, h0⟩ (fun x hx => hlt x (by rw [e]; exact List.mem_append_left _ hx))
    obtain ⟨A', m', c', ss, f1, f2, f3, f4, f5, f6⟩ := open_list (d := y1.1) (ps := y1.2) sCells sFit Tryd.underlying42 (by kernel_rfl) (by omega) (fun _ => rfl) (fun n cs y hl hy => open_step n cs y hl hy) k1 ⟨n, h1⟩ (fun x hx => hlt x (by rw [e]; exact List.mem_append_right _ hx))
    rw [e1, f1]
    exact ⟨⟨gs, ss⟩, ⟨A, m, c, A', m', c', rfl, e4, f4, e5, f5⟩, f6, by simp only; omega, by simp only; omega⟩
end
end Go.Proofs.YtpmnppjiipbonaaDoor
