/-
  The frame of a law whose row lists variables: a contract that says 'it returns true, and nothing that was there has turned' gives the row's step. And what the list gives: the sentinels. No condition.
-/
import Derived.Test.YtmifgjkikbgmiaaDoorFrame
import Derived.Test.YtmifgjkikbgmiaaDoorErr
import Derived.Test.YtmifgjkikbgmiaaDoorCards
import Derived.Test.YtmifgjkikbgmiaaDoorTie
import Derived.Deep.DeepHandedRow
import Derived.Deep.DeepWitnessRowRef
import Derived.Stop.LaidErr
import Derived.LaidHandle
namespace Go.Proofs.YtmifgjkikbgmiaaDoor
set_option linter.unusedVariables false
open Go.ChangeShapes Go.WideShapes Go.ChangeAt Go.RowKit

section
variable {H : Type} {enc : TypeId × Value → H}
theorem door_lift {C : Checked} {f : FuncId} {fn : Func} {s : ChangeSpec} {os : Os} {B : TypeId} {F : Stop.Interp} {conds : List PathCond} {laid : List (String × DataW Unit)} (own : ownKnob C.prog.godebug = none) (started : os.Started) (noInit : C.prog.inits.idxOf? f = none) (hfn : C.prog.funcs[f]? = some fn)
    (hl : laidOutB C.prog = true) (hts : ∀ t ∈ fn.params.toList, C.prog.readableRec t = true ∧ t < C.prog.types.size) (hB : C.prog.underlying B = some .bool) (hrt : fn.resultTypes = #[B]) (hv : s.vars = [])
    (hs : ∀ ds : List (DataW H), ds.length = fn.params.toList.length → (s.fn H ds).results = [.lit (.bool true)] ∧ (s.fn H ds).args = ds ∧ (s.fn H ds).vars = [])
    (witness : ∃ (w : World) (tape : Tape) (i : Input), w.os = os ∧ (w.forCall tape i).Shaped C.prog ∧ i.vars = [] ∧ Input.okWide C.prog (w.forCall tape i) .any w.heap.size f i ∧
      (OpenSpec.ofChange s).preRow enc C.prog fn conds false laid (w.forCall tape i).memory i.args ∧ ({} : Assume).holds C.prog (lone (Frame.enter C.prog f i.args .normal) [] (w.forCall tape i)))
    (contract : ∀ (W : World) (base : Nat) (args : Array Value) (ds : List (DataW H)) (p : List MemPlace),
      (∀ (j : Nat) t v, fn.params[j]? = some t → args[j]? = some v → Value.okWide C.prog W .any base t v) →
      DataW.TrodAll enc C.prog W 0 (fun _ => true) true fn.params.toList args.toList ds p → (∀ x ∈ p, x.block < W.heap.size) →
      laidMetH C.prog laid W →
      Calls C.prog f args W fun e W' => e = .returned (.bool true) ∧ Below W.heap.size W W') :
    ReturnsInHanded {} C os f .any ((OpenSpec.ofChange s).preRow enc C.prog fn conds false laid) (((OpenSpec.ofChange s).at F).post enc C.prog fn false true false false) := by
  refine returnsInHanded_of_row own started noInit hfn witness ?_
  intro W base args ds gs before hval hW0 _ _ _ hL _ _
  have hW : DataW.Whole enc C.prog fn.params.toList s.vars false W args.toList ds gs before := hW0
  have hW' := hW
  have hlt : ∀ x ∈ before, x.block < W.heap.size := fun x hx => hW.lt x hx
  obtain ⟨p, q, hA, hV, rfl, hfz, hnd⟩ := hW
  rw [hv] at hV
  obtain ⟨rfl, rfl⟩ := trodVars_none hV
  have hl2 : ds.length = fn.params.toList.length := trod_len hA
  simp only [List.append_nil] at hW' hlt
  obtain ⟨e1, e2, e3⟩ := hs ds hl2
  refine (contract W base args ds p hval hA hlt hL).mono fun e W' ⟨he, hb⟩ => ?_
  subst he
  refine ⟨_, rfl, ?_⟩
  show s.post enc C.prog fn false true false false W args _ W'
  refine post_of_below (pa := p) (pv := []) hW' ?_ ?_ ?_ (by simp) hb ?_
  · intro _ _ _
    simp only [List.append_nil, e1, hrt]
    exact trodAll_cons_mk (shut_bool hB _) trodAll_mk0
  · intro sp hsp
    simp only [List.append_nil, e2]
    exact stays_all hl hb hts hA (fun x hx => ⟨hlt x hx, hsp x hx⟩)
  · intro sp _
    simp only [List.append_nil, e3, hv]
    rfl
  · exact ok_one hrt rfl (okWide_bool_mk hB _)
end

/-! ### the sentinels, out of the row's list -/
def sentD (t : List UInt8) : DataW Unit := .iface "*errors.errorString" (.ptr (.agg [.lit (.string t)]))
/-- The names of the listed sentinels, and their texts, by code. -/
def sentN : List (String × List UInt8) := [("philtre/api.ErrForm", [102, 111, 114, 109]), ("philtre/api.ErrShort", [115, 104, 111, 114, 116]), ("philtre/api.ErrLong", [108, 111, 110, 103]), ("philtre/api.ErrRange", [114, 97, 110, 103, 101]), ("philtre/api.ErrKind", [107, 105, 110, 100]), ("philtre/api.ErrTwice", [116, 119, 105, 99, 101]), ("philtre/api.ErrFull", [102, 117, 108, 108]), ("philtre/api.ErrBadOp", [98, 97, 100, 32, 111, 112]), ("philtre/api.ErrBadBatch", [98, 97, 100, 32, 98, 97, 116, 99, 104]), ("philtre/api.ErrStaleBatch", [115, 116, 97, 108, 101, 32, 98, 97, 116, 99, 104]), ("philtre/api.ErrTooManyReaders", [116, 111, 111, 32, 109, 97, 110, 121, 32, 114, 101, 97, 100, 101, 114, 115]), ("philtre/api.ErrNoWatcher", [110, 111, 32, 119, 97, 116, 99, 104, 101, 114]), ("philtre/api.ErrTooManyWatchers", [116, 111, 111, 32, 109, 97, 110, 121, 32, 119, 97, 116, 99, 104, 101, 114, 115]), ("philtre/api.ErrOverflow", [111, 118, 101, 114, 102, 108, 111, 119]), ("philtre/api.ErrScript", [115, 99, 114, 105, 112, 116]), ("philtre/api.ErrNone", [110, 111, 110, 101]), ("philtre/api.ErrFreed", [102, 114, 101, 101, 100]), ("philtre/api.ErrBounds", [98, 111, 117, 110, 100, 115]), ("philtre/api.ErrUnknown", [117, 110, 107, 110, 111, 119, 110])]
def sentL : List (String × DataW Unit) := sentN.map fun x => (x.1, sentD x.2)
/-! ### lists with more than the sentinels -/
theorem laidVars_drop : ∀ (pre : List (String × DataW Unit)) {l : List (String × DataW Unit)} {W : World} {ps : List MemPlace}, DataW.LaidVars Tryd.prog W (pre ++ l) ps → ∃ qs rs, ps = qs ++ rs ∧ DataW.LaidVars Tryd.prog W l rs
  | [], _, _, ps, h => ⟨[], ps, rfl, h⟩
  | (n, d) :: pre, l, W, ps, h => by
    obtain ⟨g, t, cs, fuel, p, q, _, _, _, _, hq, rfl⟩ := h
    obtain ⟨qs, rs, rfl, hr⟩ := laidVars_drop pre hq
    exact ⟨MemPlace.row ⟨g, 0, none⟩ cs.size ++ p ++ qs, rs, by simp, hr⟩
theorem laidMet_drop {pre l : List (String × DataW Unit)} {W : World} (h : laidMet Tryd.prog (pre ++ l) W) : laidMet Tryd.prog l W := by
  obtain ⟨ps, hv, hnd, hrows⟩ := h
  obtain ⟨qs, rs, rfl, hr⟩ := laidVars_drop pre hv
  exact ⟨rs, hr, (List.nodup_append.1 hnd).2.1, fun b off hm => hrows b off (List.mem_append_right _ hm)⟩
end Go.Proofs.YtmifgjkikbgmiaaDoor
