import Derived.Test.YtpkkjoiglemlgaaGreatDoorDHandle
import Derived.Test.YtpkkjoiglemlgaaGreatDoorOpW
import Derived.ChangeSame
import Derived.Test.YtpkkjoiglemlgaaGreatDoorFrame
import Derived.Test.YtpkkjoiglemlgaaGreatDoorIdO
import Derived.Test.YtpkkjoiglemlgaaGreatDoorBtW
/-
  How an operation among the arguments is opened (layer 9). No condition.
-/
namespace Go.Proofs.YtpkkjoiglemlgaaGreatDoor
set_option linter.unusedVariables false
open Go.ChangeShapes Go.WideShapes Go.ChangeAt Go.RowKit
section
variable {H : Type} {enc : TypeId × Value → H}
theorem rec_fields {P : Program} {w : World} {base : Nat} {sp : Nat → Bool} {held : Bool} {fuel : Nat} {t : TypeId} {fs : Array Field} {cs : List Value} {x : DataW H × List MemPlace} (ht : P.underlying t = some (.struct fs)) (h : DataW.trod enc P w base sp held fuel t cs = some x) :
    cs.length = P.cellsOf t ∧ ∀ (i : Nat) (f : Field), fs[i]? = some f → ∃ n y, DataW.trod enc P w base sp held n f.type ((cs.drop f.offset).take (P.cellsOf f.type)) = some y := by
  obtain ⟨xs, n, _, _, hl, hlen, hf⟩ := DataW.trod_struct ht h
  refine ⟨hl, fun i f hi => ?_⟩
  have h1 := hf i f hi
  have h2 : i < fs.size := (Array.getElem?_eq_some_iff.mp hi).1
  exact ⟨n, xs[i]'(by omega), h1.trans (List.getElem?_eq_getElem (by omega))⟩
set_option maxRecDepth 100000 in
theorem open_guard {w : World} {base : Nat} {sp : Nat → Bool} {held : Bool} (n : Nat) (cs : List Value) (y : DataW H × List MemPlace) (hl : cs.length = 3) (h : DataW.trod enc Tryz.prog w base sp held n 94 cs = some y) :
    ∃ x : OGuard, cs = gCells x ∧ True := by
  obtain ⟨_, hf⟩ := rec_fields Tryz.underlying94 h
  match cs, hl with
  | [c0, c1, c2], _ =>
    obtain ⟨n0, y0, h0⟩ := hf 0 _ rfl
    obtain ⟨n1, y1, h1⟩ := hf 1 _ rfl
    obtain ⟨n2, y2, h2⟩ := hf 2 _ rfl
    obtain ⟨a0, e0, _, w0⟩ := DataW.trod_int Tryz.underlying3 h0
    obtain ⟨a1, e1, _, w1⟩ := DataW.trod_string Tryz.underlying9 h1
    obtain ⟨a2, e2, _, w2⟩ := DataW.trod_string Tryz.underlying9 h2
    have e0' : c0 = .int .i64 a0 := by
      have : [c0] = [Value.int .i64 a0] := e0
      injection this
    have e1' : c1 = .string a1 := by
      have : [c1] = [Value.string a1] := e1
      injection this
    have e2' : c2 = .string a2 := by
      have : [c2] = [Value.string a2] := e2
      injection this
    subst e0' e1' e2'
    exact ⟨⟨a0, a1, a2⟩, rfl, trivial⟩
set_option maxRecDepth 100000 in
theorem open_step {w : World} {base : Nat} {sp : Nat → Bool} {held : Bool} (n : Nat) (cs : List Value) (y : DataW H × List MemPlace) (hl : cs.length = 5) (h : DataW.trod enc Tryz.prog w base sp held n 96 cs = some y) :
    ∃ x : OStep, cs = sCells x ∧ sFit x := by
  obtain ⟨_, hf⟩ := rec_fields Tryz.underlying96 h
  match cs, hl with
  | [c0, c1, c2, c3, c4], _ =>
    obtain ⟨n0, y0, h0⟩ := hf 0 _ rfl
    obtain ⟨n1, y1, h1⟩ := hf 1 _ rfl
    obtain ⟨n2, y2, h2⟩ := hf 2 _ rfl
    obtain ⟨n3, y3, h3⟩ := hf 3 _ rfl
    obtain ⟨n4, y4, h4⟩ := hf 4 _ rfl
    obtain ⟨a0, e0, _, w0⟩ := DataW.trod_int Tryz.underlying3 h0
    obtain ⟨a1, e1, _, w1⟩ := DataW.trod_string Tryz.underlying9 h1
    obtain ⟨a2, e2, _, w2⟩ := DataW.trod_string Tryz.underlying9 h2
    obtain ⟨a3, e3, _, w3⟩ := DataW.trod_string Tryz.underlying9 h3
    obtain ⟨a4, e4, _, w4⟩ := DataW.trod_int Tryz.underlying2 h4
    have e0' : c0 = .int .i64 a0 := by
      have : [c0] = [Value.int .i64 a0] := e0
      injection this
    have e1' : c1 = .string a1 := by
      have : [c1] = [Value.string a1] := e1
      injection this
    have e2' : c2 = .string a2 := by
      have : [c2] = [Value.string a2] := e2
      injection this
    have e3' : c3 = .string a3 := by
      have : [c3] = [Value.string a3] := e3
      injection this
    have e4' : c4 = .int .i64 a4 := by
      have : [c4] = [Value.int .i64 a4] := e4
      injection this
    subst e0' e1' e2' e3' e4'
    exact ⟨⟨a0, a1, a2, a3, a4⟩, rfl, bounds_i64 w4⟩
set_option maxRecDepth 100000 in
theorem open_opv {w : World} {v : Value} {d : DataW H} {ps : List MemPlace} {b0 : Nat} (hv : Value.okWide Tryz.prog w .any b0 62 v) (h : DataW.Trod enc Tryz.prog w 0 (fun _ => true) true 62 v d ps) (hlt : ∀ x ∈ ps, x.block < w.heap.size) :
    ∃ o : OOp, OpIs w v o ∧ (∀ x ∈ o.steps, sFit x) ∧ o.guards.length ≤ maxLen ∧ o.steps.length ≤ maxLen := by
  simp only [Value.okWide, Tryz.underlying62] at hv
  obtain ⟨cs, rfl, hsz, ts, hts, _, hc⟩ := hv
  obtain rfl : ts = [59, 60] := Option.some.inj (hts.symm.trans (by kernel_rfl))
  obtain ⟨l⟩ := cs
  match l, hsz with
  | [c0, c1], _ =>
    obtain ⟨fuel, hf0⟩ := h
    obtain ⟨y0, y1, n, e, _, h0, h1⟩ := trod_struct2 Tryz.underlying62 hf0
    have h0 : DataW.trod enc Tryz.prog w 0 (fun _ => true) true n 59 [c0] = some y0 := h0
    have h1 : DataW.trod enc Tryz.prog w 0 (fun _ => true) true n 60 [c1] = some y1 := h1
    obtain ⟨u0, hu0, k0⟩ := hc 0 c0 rfl
    obtain ⟨u1, hu1, k1⟩ := hc 1 c1 rfl
    obtain rfl : 59 = u0 := by simpa using hu0
    obtain rfl : 60 = u1 := by simpa using hu1
    have k0 : Value.okWide Tryz.prog w .any b0 59 c0 := by simpa only [Value.okWide, Tryz.underlying59] using k0
    have k1 : Value.okWide Tryz.prog w .any b0 60 c1 := by simpa only [Value.okWide, Tryz.underlying60] using k1
    obtain ⟨b, len, cap, rfl⟩ := okWide_slice Tryz.underlying59 k0
    obtain ⟨b', len', cap', rfl⟩ := okWide_slice Tryz.underlying60 k1
    injection e with _ e
    obtain ⟨A, m, c, gs, e1, e2, e3, e4, e5, _⟩ := open_list (d := y0.1) (ps := y0.2) gCells (fun _ => True) Tryz.underlying59 (by kernel_rfl) (by omega) (fun _ => rfl) (fun n cs y hl hy => open_guard n cs y hl hy) k0 ⟨n, h0⟩ (fun x hx => hlt x (by rw [e]; exact List.mem_append_left _ hx))
    obtain ⟨A', m', c', ss, f1, f2, f3, f4, f5, f6⟩ := open_list (d := y1.1) (ps := y1.2) sCells sFit Tryz.underlying60 (by kernel_rfl) (by omega) (fun _ => rfl) (fun n cs y hl hy => open_step n cs y hl hy) k1 ⟨n, h1⟩ (fun x hx => hlt x (by rw [e]; exact List.mem_append_right _ hx))
    rw [e1, f1]
    exact ⟨⟨gs, ss⟩, ⟨A, m, c, A', m', c', rfl, e4, f4, e5, f5⟩, f6, by simp only; omega, by simp only; omega⟩
end
end Go.Proofs.YtpkkjoiglemlgaaGreatDoor

/-
  How names among the arguments are opened (layer 12). No condition.
-/
namespace Go.Proofs.YtpkkjoiglemlgaaGreatDoor
set_option linter.unusedVariables false
open Go.ChangeShapes Go.WideShapes Go.ChangeAt Go.RowKit
section
variable {H : Type} {enc : TypeId × Value → H}
theorem rec_fieldsI {P : Program} {w : World} {base : Nat} {sp : Nat → Bool} {held : Bool} {fuel : Nat} {t : TypeId} {fs : Array Field} {cs : List Value} {x : DataW H × List MemPlace} (ht : P.underlying t = some (.struct fs)) (h : DataW.trod enc P w base sp held fuel t cs = some x) :
    cs.length = P.cellsOf t ∧ ∀ (i : Nat) (f : Field), fs[i]? = some f → ∃ n y, DataW.trod enc P w base sp held n f.type ((cs.drop f.offset).take (P.cellsOf f.type)) = some y := by
  obtain ⟨xs, n, _, _, hl, hlen, hf⟩ := DataW.trod_struct ht h
  refine ⟨hl, fun i f hi => ?_⟩
  have h1 := hf i f hi
  have h2 : i < fs.size := (Array.getElem?_eq_some_iff.mp hi).1
  exact ⟨n, xs[i]'(by omega), h1.trans (List.getElem?_eq_getElem (by omega))⟩
theorem id_bounds {a : Int} (w0 : (Lit.int .i64 a).wf = true) : -9223372036854775808 ≤ a ∧ a ≤ 9223372036854775807 := by
  have mn : IntKind.i64.min = -9223372036854775808 := by decide +kernel
  have mx : IntKind.i64.max = 9223372036854775807 := by decide +kernel
  simp [Lit.wf, mn, mx] at w0
  omega
set_option maxRecDepth 100000 in
theorem open_id {w : World} {base : Nat} {sp : Nat → Bool} {held : Bool} (n : Nat) (cs : List Value) (y : DataW H × List MemPlace) (hl : cs.length = 2) (h : DataW.trod enc Tryz.prog w base sp held n 23 cs = some y) :
    ∃ x : Int × Int, cs = idCells x ∧ idOk x := by
  obtain ⟨_, hf⟩ := rec_fieldsI Tryz.underlying23 h
  match cs, hl with
  | [c0, c1], _ =>
    obtain ⟨n0, y0, h0⟩ := hf 0 _ rfl
    obtain ⟨n1, y1, h1⟩ := hf 1 _ rfl
    obtain ⟨a0, e0, _, w0⟩ := DataW.trod_int Tryz.underlying3 h0
    obtain ⟨a1, e1, _, w1⟩ := DataW.trod_int Tryz.underlying3 h1
    have e0' : c0 = .int .i64 a0 := by
      have : [c0] = [Value.int .i64 a0] := e0
      injection this
    have e1' : c1 = .int .i64 a1 := by
      have : [c1] = [Value.int .i64 a1] := e1
      injection this
    subst e0' e1'
    exact ⟨(a0, a1), rfl, id_bounds w0, id_bounds w1⟩
set_option maxRecDepth 100000 in
theorem open_idv {w : World} {v : Value} {d : DataW H} {ps : List MemPlace} {b0 : Nat} (hv : Value.okWide Tryz.prog w .any b0 23 v) (h : DataW.Trod enc Tryz.prog w 0 (fun _ => true) true 23 v d ps) :
    ∃ x y : Int, v = .agg #[.int .i64 x, .int .i64 y] ∧ idOk (x, y) := by
  simp only [Value.okWide, Tryz.underlying23] at hv
  obtain ⟨cs, rfl, hsz, _⟩ := hv
  obtain ⟨l⟩ := cs
  match l, hsz with
  | [c0, c1], _ =>
    obtain ⟨fuel, hf0⟩ := h
    obtain ⟨⟨x, y⟩, e, ho⟩ := open_id fuel [c0, c1] _ rfl hf0
    have e : [c0, c1] = [Value.int .i64 x, Value.int .i64 y] := e
    injection e with e0 e1
    injection e1 with e1 _
    subst e0 e1
    exact ⟨x, y, rfl, ho⟩
set_option maxRecDepth 100000 in
theorem open_ids {w : World} {v : Value} {d : DataW H} {ps : List MemPlace} {b0 : Nat} (hv : Value.okWide Tryz.prog w .any b0 57 v) (h : DataW.Trod enc Tryz.prog w 0 (fun _ => true) true 57 v d ps) (hlt : ∀ x ∈ ps, x.block < w.heap.size) :
    ∃ (A : Option Addr) (len cap : Nat) (xs : List (Int × Int)), v = .slice A len cap ∧ len ≤ cap ∧ cap ≤ maxLen ∧ xs.length = len ∧ Reads w w.heap.size 2 A len (xs.flatMap idCells) ∧ ∀ x ∈ xs, idOk x :=
  open_list idCells idOk Tryz.underlying57 (by kernel_rfl) (by omega) (fun _ => rfl) (fun n cs y hl hy => open_id n cs y hl hy) hv h hlt
end
end Go.Proofs.YtpkkjoiglemlgaaGreatDoor

/-
  How a row of entries among the arguments is opened (layer 13). No condition.
-/
namespace Go.Proofs.YtpkkjoiglemlgaaGreatDoor
set_option linter.unusedVariables false
open Go.ChangeShapes Go.WideShapes Go.ChangeAt Go.RowKit
section
variable {H : Type} {enc : TypeId × Value → H}
/-- A slice that lies in a cell, or among the arguments: as a list of its own; the elements' places are the world's. -/
theorem open_listT {α : Type} {P : Program} {w : World} {t e : TypeId} {k : Nat} (mk : α → List Value) (good : α → Prop) {cs : List Value} {D0 : DataW H} {ps : List MemPlace} {fuel : Nat} (ht : P.underlying t = some (.slice e)) (hc : P.cellsOf e = k) (hk : 0 < k) (hmk : ∀ x, (mk x).length = k)
    (hel : ∀ (n : Nat) (cs : List Value) (y : DataW H × List MemPlace), cs.length = k → DataW.trod enc P w 0 (fun _ => true) true n e cs = some y → (∀ x ∈ y.2, x.block < w.heap.size) → ∃ x, cs = mk x ∧ good x)
    (hf : DataW.trod enc P w 0 (fun _ => true) true fuel t cs = some (D0, ps)) (hlt : ∀ x ∈ ps, x.block < w.heap.size) :
    ∃ (A : Option Addr) (len cap : Nat) (xs : List α), cs = [.slice A len cap] ∧ len ≤ cap ∧ cap ≤ maxLen ∧ xs.length = len ∧ Reads w w.heap.size k A len (xs.flatMap mk) ∧ ∀ x ∈ xs, good x := by
  rcases Deep.open_slice ht hf with ⟨hcs, hx⟩ | ⟨a, len, cap, m, n, D, Pl, hcs, _, hl, hm, hmm, hx, hi⟩
  · exact ⟨none, 0, 0, [], hcs, Nat.le_refl _, by unfold maxLen; omega, rfl, Reads.none_, by simp⟩
  · simp only [if_true] at hmm
    subst hmm
    rw [hc] at hx hi
    simp only [Prod.mk.injEq] at hx
    have hpl : ∀ i, i < m → ∀ x ∈ Pl i, x.block < w.heap.size := fun i hi2 x hx2 => hlt x (by
      rw [hx.2]
      exact List.mem_append_right _ (List.mem_flatMap.2 ⟨i, List.mem_range.2 hi2, hx2⟩))
    have each : ∀ i, i < len → ∃ x, good x ∧ ∀ j u, (mk x)[j]? = some u → w.cell? (a.add (i * k + j)) = some u := by
      intro i hil
      obtain ⟨cs', h1, h2⟩ := hi i (by omega)
      obtain ⟨_, hcl, hat⟩ := World.cells?_some h1
      obtain ⟨x, rfl, hg⟩ := hel n cs' _ hcl h2 (hpl i (by omega))
      refine ⟨x, hg, fun j u hu => ?_⟩
      have hj : j < k := by have := (List.getElem?_eq_some_iff.1 hu).1; have := hmk x; omega
      rw [← add_of_add, hat j hj]
      exact hu
    obtain ⟨xs, hxl, hxs⟩ := list_of_each len each
    refine ⟨some a, len, _, xs, hcs, hl, hm, hxl, ⟨?_, fun hn => ⟨a, rfl, ?_, fun j u hu => ?_⟩⟩, fun x hx1 => ?_⟩
    · have : ∀ l : List α, (l.flatMap mk).length = l.length * k := by
        intro l
        induction l with
        | nil => simp
        | cons x l ih => rw [List.flatMap_cons, List.length_append, ih, hmk, List.length_cons, Nat.succ_mul]; omega
      rw [this, hxl]
    · have hpos : 0 < m * k := Nat.mul_pos (by omega) hk
      exact hlt (.cell a.block a.off) (by rw [hx.2]; exact List.mem_append_left _ (row_mem a _ hpos))
    · have hj : j / k * k + j % k = j := Nat.div_add_mod' j k
      rw [← hj, flat_get mk k hmk xs (j / k) (j % k) (Nat.mod_lt _ hk)] at hu
      cases hxi : xs[j / k]? with
      | none => rw [hxi] at hu; cases hu
      | some x =>
        rw [hxi] at hu
        have := (hxs (j / k) x hxi).2 (j % k) u hu
        rwa [hj] at this
    · obtain ⟨i, hil, rfl⟩ := List.getElem_of_mem hx1
      exact (hxs i _ (List.getElem?_eq_getElem hil)).1
/-- What is known of an entry among the arguments. -/
def EntGood (w : World) (it : EItem) : Prop := OpL w (.agg #[it.2.1, it.2.2]) it.1.op ∧ idOk it.1.id ∧ ∀ z ∈ it.1.op.steps, sFit z
set_option maxRecDepth 100000 in
theorem open_ent {w : World} (n : Nat) (cs : List Value) (y : DataW H × List MemPlace) (hl : cs.length = 4) (h : DataW.trod enc Tryz.prog w 0 (fun _ => true) true n 64 cs = some y) (hy : ∀ x ∈ y.2, x.block < w.heap.size) :
    ∃ it : EItem, cs = mk4 it ∧ EntGood w it := by
  match cs, hl with
  | [c0, c1, c2, c3], _ =>
    obtain ⟨y0, y1, m, rfl, _, h0, h1⟩ := trod_struct2 Tryz.underlying64 h
    have h0 : DataW.trod enc Tryz.prog w 0 (fun _ => true) true m 23 [c0, c1] = some y0 := h0
    have h1 : DataW.trod enc Tryz.prog w 0 (fun _ => true) true m 62 [c2, c3] = some y1 := h1
    obtain ⟨⟨i1, i2⟩, e0, hio⟩ := open_id m [c0, c1] y0 rfl h0
    obtain ⟨z0, z1, k, rfl, _, g0, g1⟩ := trod_struct2 Tryz.underlying62 h1
    have g0 : DataW.trod enc Tryz.prog w 0 (fun _ => true) true k 59 [c2] = some z0 := g0
    have g1 : DataW.trod enc Tryz.prog w 0 (fun _ => true) true k 60 [c3] = some z1 := g1
    obtain ⟨A, n1, c, gs, e1, _, _, e4, e5, _⟩ := open_listT (D0 := z0.1) (ps := z0.2) gCells (fun _ => True) Tryz.underlying59 (by kernel_rfl) (by omega) (fun _ => rfl) (fun n cs y hl hy _ => open_guard n cs y hl hy) g0 (fun x hx => hy x (List.mem_append_right _ (List.mem_append_left _ hx)))
    obtain ⟨A', n2, c', ss, f1, _, _, f4, f5, f6⟩ := open_listT (D0 := z1.1) (ps := z1.2) sCells sFit Tryz.underlying60 (by kernel_rfl) (by omega) (fun _ => rfl) (fun n cs y hl hy _ => open_step n cs y hl hy) g1 (fun x hx => hy x (List.mem_append_right _ (List.mem_append_right _ hx)))
    have e0 : [c0, c1] = [Value.int .i64 i1, Value.int .i64 i2] := e0
    injection e0 with a0 e0
    injection e0 with a1 _
    injection e1 with a2 _
    injection f1 with a3 _
    subst a0 a1 a2 a3
    refine ⟨(⟨(i1, i2), ⟨gs, ss⟩⟩, .slice A n1 c, .slice A' n2 c'), rfl, ⟨⟨A, n1, c, A', n2, c', rfl, e4, f4, e5, f5⟩, by simp only; omega, by simp only; omega⟩, hio, f6⟩
set_option maxRecDepth 100000 in
theorem open_ents {w : World} {v : Value} {d : DataW H} {ps : List MemPlace} {b0 : Nat} (hv : Value.okWide Tryz.prog w .any b0 37 v) (h : DataW.Trod enc Tryz.prog w 0 (fun _ => true) true 37 v d ps) (hlt : ∀ x ∈ ps, x.block < w.heap.size) :
    ∃ l : List Ent, ERow w v l ∧ (∀ A n c, v = .slice A n c → n ≤ c) ∧ l.length ≤ maxLen ∧ (∀ x ∈ l, idOk x.id) ∧ ∀ x ∈ l, ∀ z ∈ x.op.steps, sFit z := by
  obtain ⟨a0, len, cap, rfl⟩ := okWide_slice Tryz.underlying37 hv
  obtain ⟨fuel, hf⟩ := h
  obtain ⟨A, n, c, its, e1, hlc, hcm, hl, hr, hg⟩ := open_listT mk4 (EntGood w) Tryz.underlying37 (by kernel_rfl) (by omega) (fun _ => rfl) (fun n cs y hl hy hp => open_ent n cs y hl hy hp) hf hlt
  have e1 : [Value.slice a0 len cap] = [Value.slice A n c] := e1
  injection e1 with e1 _
  injection e1 with b1 b2 b3
  subst b1 b2 b3
  refine ⟨its.map (·.1), ⟨a0, cap, its, by rw [List.length_map, hl], rfl, by rw [List.length_map, hl]; exact hr, fun it hi => (hg it hi).1⟩, fun A n c e => ?_, by rw [List.length_map]; omega, fun x hx => ?_, fun x hx => ?_⟩
  · injection e with b1 b2 b3
    subst b1 b2 b3
    exact hlc
  · obtain ⟨it, hi, rfl⟩ := List.mem_map.1 hx
    exact (hg it hi).2.1
  · obtain ⟨it, hi, rfl⟩ := List.mem_map.1 hx
    exact (hg it hi).2.2
end
end Go.Proofs.YtpkkjoiglemlgaaGreatDoor
