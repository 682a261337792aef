/-
  The errors of package fail: the sentinels in the world; an error wrapped with places; errors.Is. No condition.
-/
import Derived.Test.YtpkkjoiglemlgaaGreatDoorChecked
import Derived.Test.YtpkkjoiglemlgaaGreatDoorBase
import Derived.LaidEql
import Derived.Stop.Asserts
import Derived.RowKitTokens
namespace Go.Proofs.YtpkkjoiglemlgaaGreatDoor
set_option linter.unusedVariables false
open Go.RowKit Go.Extern.Stop Go.Stop Go.Extern

/-! ### closed facts: what reflectlite.TypeOf(target).Comparable() gives; what errors.is's assertions find -/
theorem isTypeOf (v : Value) (w : World) : (Extern.ReflectliteType.typeOf #[.iface 242 v]).run Tryz.prog w = .ok (.iface 173 (.agg #[.pointer (some ⟨26, 242, none⟩)])) w := by kernel_rfl
theorem isComparable (w : World) : ((Extern.ReflectliteType.method fun t => do Extern.Rtype.noPackHeld "Comparable" t; pure (.bool (← typeInfo t).comparable)) #[.agg #[.pointer (some ⟨26, 242, none⟩)]]).run Tryz.prog w = .ok (.bool true) w := by kernel_rfl
theorem callTypeOf (v : Value) (w : World) : (callFunc 82 #[.iface 242 v]).run Tryz.prog w = .ok (.value (.iface 173 (.agg #[.pointer (some ⟨26, 242, none⟩)]))) w := by
  rw [@run_callFunc_extern Tryz.prog 82 _ Extern.ReflectliteType.typeOf Tryz.func82 (by kernel_rfl) (by kernel_rfl) (by kernel_rfl) (by kernel_rfl), isTypeOf]
  rfl
theorem callComparable (w : World) : (callFunc 193 #[.agg #[.pointer (some ⟨26, 242, none⟩)]]).run Tryz.prog w = .ok (.value (.bool true)) w := by
  rw [@run_callFunc_extern Tryz.prog 193 _ (Extern.ReflectliteType.method fun t => do Extern.Rtype.noPackHeld "Comparable" t; pure (.bool (← typeInfo t).comparable)) Tryz.func193 (by kernel_rfl) (by kernel_rfl) (by kernel_rfl) (by kernel_rfl), isComparable]
  rfl
theorem isMethodComparable (v : Value) (w : World) : (Go.method 375 173 v "Comparable").run Tryz.prog w = .ok (193, v) w := by kernel_rfl
theorem isComp : (Tryz.prog.info? 242).map (·.comparable) = some true := by kernel_rfl
theorem isSize : (Tryz.prog.info? 244).map (·.size) = some 1 := by kernel_rfl
theorem noIsE (v : Value) (xT : TypeId) (w : World) : (Instr.typeAssert (.iface 242 v) xT 175 true).run Tryz.prog w = .ok (.tuple #[.nilIface, .bool false]) w := run_typeAssert_lacksB Tryz.underlying175 (by kernel_rfl) (by kernel_rfl) v xT w
theorem noUnwrapE (v : Value) (xT : TypeId) (w : World) : (Instr.typeAssert (.iface 242 v) xT 178 true).run Tryz.prog w = .ok (.tuple #[.nilIface, .bool false]) w := run_typeAssert_lacksB Tryz.underlying178 (by kernel_rfl) (by kernel_rfl) v xT w
theorem noUnwrapsE (v : Value) (xT : TypeId) (w : World) : (Instr.typeAssert (.iface 242 v) xT 180 true).run Tryz.prog w = .ok (.tuple #[.nilIface, .bool false]) w := run_typeAssert_lacksB Tryz.underlying180 (by kernel_rfl) (by kernel_rfl) v xT w
theorem noIsW (v : Value) (xT : TypeId) (w : World) : (Instr.typeAssert (.iface 101 v) xT 175 true).run Tryz.prog w = .ok (.tuple #[.nilIface, .bool false]) w := run_typeAssert_lacksB Tryz.underlying175 (by kernel_rfl) (by kernel_rfl) v xT w
theorem hasUnwrapW (v : Value) (xT : TypeId) (w : World) : (Instr.typeAssert (.iface 101 v) xT 178 true).run Tryz.prog w = .ok (.tuple #[.iface 101 v, .bool true]) w := run_typeAssert_hasB Tryz.underlying178 (by kernel_rfl) v xT w
theorem methodUnwrap (v : Value) (w : World) : (Go.method 375 101 v "Unwrap").run Tryz.prog w = .ok (184, v) w := by kernel_rfl

/-! ### the sentinels -/
/-- The variables' numbers, by code: 1 .. 18, then 99. -/
def sentG : List Nat := [1, 2, 3, 4, 5, 6, 9, 7, 0, 10, 11, 12, 13, 14, 15, 16, 17, 18, 19]
/-- The place of a code's sentinel. -/
def sIdx (c : Int) : Nat := if 1 ≤ c ∧ c ≤ 18 then (c - 1).toNat else 18
theorem sIdx_lt (c : Int) : sIdx c < 19 := by unfold sIdx; split <;> omega
structure Sent (w : World) (sv : Nat → Addr) : Prop where
  var : ∀ i, i < 19 → w.cell? ⟨sentG.getD i 0, 0, none⟩ = some (.iface 242 (.pointer (some (sv i))))
  inj : ∀ i j, i < 19 → j < 19 → sv i = sv j → i = j
  row : ∀ i, i < 19 → ∃ cs t, w.heap[(sv i).block]? = some (.cells cs t (0, 0))
theorem cell_lt {w : World} {p : Addr} {v : Value} (h : w.cell? p = some v) : p.block < w.heap.size := by
  unfold World.cell? at h
  cases hb : w.heap[p.block]? with
  | none => simp [hb] at h
  | some o => exact (Array.getElem?_eq_some_iff.1 hb).1
theorem Sent.below {w w' : World} {sv : Nat → Addr} (h : Sent w sv) (hb : Below w.heap.size w w') : Sent w' sv :=
  ⟨fun i hi => (hb.cell (p := ⟨sentG.getD i 0, 0, none⟩) (cell_lt (h.var i hi))).trans (h.var i hi), h.inj, fun i hi => by
    obtain ⟨cs, t, hc⟩ := h.row i hi
    exact ⟨cs, t, (hb.block _ (Array.getElem?_eq_some_iff.1 hc).1).trans hc⟩⟩

/-! ### errors -/
/-- An error: no one; or a sentinel, wrapped at places, the outermost first. -/
def ErrIs (w : World) (sv : Nat → Addr) (v : Value) : List Int → Nat → Prop
  | [], i => i < 19 ∧ v = .iface 242 (.pointer (some (sv i)))
  | p :: ps, i => ∃ b u, v = .iface 101 (.pointer (some ⟨b, 0, none⟩)) ∧ Blk w b 105 #[.int .i64 p, u] ∧ ErrIs w sv u ps i
theorem ErrIs.leaf {w : World} {sv : Nat → Addr} (i : Nat) (h : i < 19) : ErrIs w sv (.iface 242 (.pointer (some (sv i)))) [] i := ⟨h, rfl⟩
theorem ErrIs.wrap {w : World} {sv : Nat → Addr} (b : Nat) (p : Int) (v : Value) (ps : List Int) (i : Nat) (hB : Blk w b 105 #[.int .i64 p, v]) (h : ErrIs w sv v ps i) : ErrIs w sv (.iface 101 (.pointer (some ⟨b, 0, none⟩))) (p :: ps) i := ⟨b, v, rfl, hB, h⟩
theorem ErrIs.lt {w : World} {sv : Nat → Addr} : ∀ {ps : List Int} {v : Value} {i : Nat}, ErrIs w sv v ps i → i < 19
  | [], _, _, h => h.1
  | _ :: _, _, _, ⟨_, _, _, _, h⟩ => h.lt
theorem ErrIs.iface {w : World} {sv : Nat → Addr} : ∀ {ps : List Int} {v : Value} {i : Nat}, ErrIs w sv v ps i → ∃ t u, v = .iface t u
  | [], _, _, h => ⟨_, _, h.2⟩
  | _ :: _, _, _, ⟨_, _, h, _, _⟩ => ⟨_, _, h⟩
theorem ErrIs.under {w w' : World} {sv : Nat → Addr} (hb : Below w.heap.size w w') : ∀ {ps : List Int} {v : Value} {i : Nat}, ErrIs w sv v ps i → ErrIs w' sv v ps i
  | [], _, _, h => h
  | _ :: _, _, _, ⟨b, u, h, hB, k⟩ => ⟨b, u, h, hB.below hb hB.lt, ErrIs.under hb k⟩
theorem ErrIs.len_any {w : World} {sv sv' : Nat → Addr} : ∀ {ps ps' : List Int} {v : Value} {i i' : Nat}, ErrIs w sv v ps i → ErrIs w sv' v ps' i' → ps = ps'
  | [], [], _, _, _, _, _ => rfl
  | [], _ :: _, _, _, _, h, ⟨_, _, h', _, _⟩ => by
    rw [h.2] at h'
    cases h'
  | _ :: _, [], _, _, _, ⟨_, _, h', _, _⟩, h => by
    rw [h.2] at h'
    cases h'
  | p :: ps, p' :: ps', v, i, i', ⟨b, u, h, hB, k⟩, ⟨b', u', h', hB', k'⟩ => by
    rw [h] at h'
    have e0 : b = b' := by simpa using h'
    subst e0
    have e := Option.some.inj (hB.symm.trans hB')
    simp only [Obj.cells.injEq, Array.mk.injEq, List.cons.injEq, Value.int.injEq, true_and, and_true] at e
    obtain ⟨rfl, rfl⟩ := e
    rw [ErrIs.len_any k k']
open Classical in
/-- How many links are left: a loop's measure. -/
noncomputable def errLen (w : World) (v : Value) : Nat := if h : ∃ x : List Int × Nat × (Nat → Addr), ErrIs w x.2.2 v x.1 x.2.1 then h.choose.1.length + 1 else 0
theorem errLen_eq {w : World} {sv : Nat → Addr} {v : Value} {ps : List Int} {i : Nat} (h : ErrIs w sv v ps i) : errLen w v = ps.length + 1 := by
  unfold errLen
  have hx : ∃ x : List Int × Nat × (Nat → Addr), ErrIs w x.2.2 v x.1 x.2.1 := ⟨(ps, i, sv), h⟩
  rw [dif_pos hx, ErrIs.len_any hx.choose_spec h]

/-! ### errors.Is -/
theorem unwrap_any {w : World} (b : Nat) (p : Int) (v : Value) (hB : Blk w b 105 #[.int .i64 p, v]) :
    Calls Tryz.prog 184 #[.pointer (some ⟨b, 0, none⟩)] w fun e w' => e = .returned v ∧ w = w' := by
  have h1 : w.cell? ⟨b, 1, none⟩ = some v := hB.cell 1
  go_enter Tryz.func184, Tryz.ntmps184
  go_wp2
  go_ret
  exact ⟨rfl, rfl⟩
set_option maxRecDepth 1000000 in
theorem is_loop {w : World} {sv : Nat → Addr} (S : Sent w sv) (v : Value) (ps : List Int) (i j : Nat) (hj : j < 19) (hv : ErrIs w sv v ps i) :
    Calls Tryz.prog 83 #[v, .iface 242 (.pointer (some (sv j))), .bool true] w fun e w' => e = .returned (.bool (decide (i = j))) ∧ w = w' := by
  obtain ⟨i0, hi0, hcmp⟩ := Option.map_eq_some_iff.1 isComp
  obtain ⟨j0, hj0, hjs⟩ := Option.map_eq_some_iff.1 isSize
  have nE := noIsE
  have uE := noUnwrapE
  have vE := noUnwrapsE
  have nW := noIsW
  have uW := hasUnwrapW
  have mU := methodUnwrap
  obtain ⟨cb, tb, hb⟩ := S.row j hj
  go_enter Tryz.func83, Tryz.ntmps83
  go_wp2
  go_loopw [0] (fun E' wl => wl = w ∧ ∃ ps', ErrIs w sv E' ps' i) (fun E' _ => errLen w E')
  case atStart => exact ⟨rfl, ps, hv⟩
  case round =>
    obtain ⟨rfl, ps', hv'⟩ := hrel
    rcases ps' with _ | ⟨p, ps1⟩
    · obtain ⟨hi, rfl⟩ := hv'
      by_cases hij : i = j
      · subst hij
        have heq := run_eql_iface_ptr_same (P := Tryz.prog) wr (sv i) Tryz.underlying26 Tryz.underlying242 hi0 hcmp hj0
        go_wp2
        go_ret
        exact ⟨by simp, rfl⟩
      · obtain ⟨ca, ta, ha⟩ := S.row i hi
        have heq := run_eql_iface_ptr_other (P := Tryz.prog) wr Tryz.underlying26 Tryz.underlying242 hi0 hcmp hj0 (by rw [hjs]; decide) (fun e => hij (S.inj i j hi hj e)) ha hb
        go_wp2
        go_ret
        exact ⟨by simp [hij], rfl⟩
    · obtain ⟨b, v1, rfl, hB, h1⟩ := hv'
      have hty := run_eql_iface_types (P := Tryz.prog) 101 242 (.pointer (some ⟨b, 0, none⟩)) (.pointer (some (sv j))) Tryz.underlying26 (by decide) wr
      have hlen := errLen_eq h1
      have hlen0 := errLen_eq (ErrIs.wrap b p v1 ps1 i hB h1)
      obtain ⟨u1, u2, rfl⟩ := h1.iface
      have HC : Hid (ErrIs wr sv (.iface u1 u2) ps1 i) := h1
      clear h1
      go_wp2_with fail
      refine (unwrap_any b p _ hB).mono ?_; rintro e w1 ⟨rfl, rfl⟩
      go_wp2_with fail
      go_roundw
      case rel => exact ⟨trivial, ps1, HC.out⟩
      case measure =>
        show errLen wr (.iface u1 u2) < _
        rw [hlen, hlen0]; simp
theorem is_any {w : World} {sv : Nat → Addr} (S : Sent w sv) (v : Value) (ps : List Int) (i j : Nat) (hj : j < 19) (hv : ErrIs w sv v ps i) :
    Calls Tryz.prog 57 #[v, .iface 242 (.pointer (some (sv j)))] w fun e w' => e = .returned (.bool (decide (i = j))) ∧ w = w' := by
  have hT := callTypeOf
  have hC := callComparable
  have mR := isMethodComparable
  obtain ⟨u1, u2, rfl⟩ := hv.iface
  have hv := Lib.hid hv
  go_enter Tryz.func57, Tryz.ntmps57
  go_wp2_with fail
  refine (is_loop S _ ps i j hj hv.out).mono ?_; rintro e w1 ⟨rfl, rfl⟩
  go_wp2_with fail
  go_ret
  exact ⟨rfl, rfl⟩
theorem is_nil {w : World} (a : Addr) :
    Calls Tryz.prog 57 #[.nilIface, .iface 242 (.pointer (some a))] w fun e w' => e = .returned (.bool false) ∧ w = w' := by
  have hn := run_eql_iface_nil_left (P := Tryz.prog) w 242 (.pointer (some a)) Tryz.underlying26
  go_enter Tryz.func57, Tryz.ntmps57
  go_wp2
  go_ret
  exact ⟨rfl, rfl⟩
end Go.Proofs.YtpkkjoiglemlgaaGreatDoor
