import Derived.Test.YtpkkjoiglemlgaaGreatDoorFrame
import Derived.Test.YtpkkjoiglemlgaaGreatDoorErr
import Derived.Test.YtpkkjoiglemlgaaGreatDoorCards
import Derived.Test.YtpkkjoiglemlgaaGreatDoorTie
import Derived.Deep.DeepHandedRow
import Derived.Deep.DeepWitnessRowRef
import Derived.Stop.LaidErr
import Derived.LaidHandle
/-
  The frame of a law whose row lists variables: a contract that says 'it returns true, and nothing that was there has turned' gives the row's step. And what the list gives: the sentinels. No condition.
-/
namespace Go.Proofs.YtpkkjoiglemlgaaGreatDoor
set_option linter.unusedVariables false
open Go.ChangeShapes Go.WideShapes Go.ChangeAt Go.RowKit

section
variable {H : Type} {enc : TypeId × Value → H}
theorem door_lift {C : Checked} {f : FuncId} {fn : Func} {s : ChangeSpec} {os : Os} {B : TypeId} {F : Stop.Interp} {conds : List PathCond} {laid : List (String × DataW Unit)} (own : ownKnob C.prog.godebug = none) (started : os.Started) (noInit : C.prog.inits.idxOf? f = none) (hfn : C.prog.funcs[f]? = some fn)
    (hl : laidOutB C.prog = true) (hts : ∀ t ∈ fn.params.toList, C.prog.readableRec t = true ∧ t < C.prog.types.size) (hB : C.prog.underlying B = some .bool) (hrt : fn.resultTypes = #[B]) (hv : s.vars = [])
    (hs : ∀ ds : List (DataW H), ds.length = fn.params.toList.length → (s.fn H ds).results = [.lit (.bool true)] ∧ (s.fn H ds).args = ds ∧ (s.fn H ds).vars = [])
    (witness : ∃ (w : World) (tape : Tape) (i : Input), w.os = os ∧ (w.forCall tape i).Shaped C.prog ∧ i.vars = [] ∧ Input.okWide C.prog (w.forCall tape i) .any w.heap.size f i ∧
      (OpenSpec.ofChange s).preRow enc C.prog fn conds false laid (w.forCall tape i).memory i.args ∧ ({} : Assume).holds C.prog (lone (Frame.enter C.prog f i.args .normal) [] (w.forCall tape i)))
    (contract : ∀ (W : World) (base : Nat) (args : Array Value) (ds : List (DataW H)) (p : List MemPlace),
      (∀ (j : Nat) t v, fn.params[j]? = some t → args[j]? = some v → Value.okWide C.prog W .any base t v) →
      DataW.TrodAll enc C.prog W 0 (fun _ => true) true fn.params.toList args.toList ds p → (∀ x ∈ p, x.block < W.heap.size) →
      laidMetH C.prog laid W →
      Calls C.prog f args W fun e W' => e = .returned (.bool true) ∧ Below W.heap.size W W') :
    ReturnsInHanded {} C os f .any ((OpenSpec.ofChange s).preRow enc C.prog fn conds false laid) (((OpenSpec.ofChange s).at F).post enc C.prog fn false true false false) := by
  refine returnsInHanded_of_row own started noInit hfn witness ?_
  intro W base args ds gs before hval hW0 _ _ _ hL _ _
  have hW : DataW.Whole enc C.prog fn.params.toList s.vars false W args.toList ds gs before := hW0
  have hW' := hW
  have hlt : ∀ x ∈ before, x.block < W.heap.size := fun x hx => hW.lt x hx
  obtain ⟨p, q, hA, hV, rfl, hfz, hnd⟩ := hW
  rw [hv] at hV
  obtain ⟨rfl, rfl⟩ := trodVars_none hV
  have hl2 : ds.length = fn.params.toList.length := trod_len hA
  simp only [List.append_nil] at hW' hlt
  obtain ⟨e1, e2, e3⟩ := hs ds hl2
  refine (contract W base args ds p hval hA hlt hL).mono fun e W' ⟨he, hb⟩ => ?_
  subst he
  refine ⟨_, rfl, ?_⟩
  show s.post enc C.prog fn false true false false W args _ W'
  refine post_of_below (pa := p) (pv := []) hW' ?_ ?_ ?_ (by simp) hb ?_
  · intro _ _ _
    simp only [List.append_nil, e1, hrt]
    exact trodAll_cons_mk (shut_bool hB _) trodAll_mk0
  · intro sp hsp
    simp only [List.append_nil, e2]
    exact stays_all hl hb hts hA (fun x hx => ⟨hlt x hx, hsp x hx⟩)
  · intro sp _
    simp only [List.append_nil, e3, hv]
    rfl
  · exact ok_one hrt rfl (okWide_bool_mk hB _)
end

/-! ### the sentinels, out of the row's list -/
def sentD (t : List UInt8) : DataW Unit := .iface "*errors.errorString" (.ptr (.agg [.lit (.string t)]))
theorem rowES (u : TypeId) (h : Tryz.prog.typeName? 3 u = some "*errors.errorString") : u = 242 :=
  typeName_ptr_named (nm := "errors.errorString") (by rw [show "*" ++ "errors.errorString" = "*errors.errorString" by decide]; kernel_rfl) (by kernel_rfl) (by decide) u (by rw [show "*" ++ "errors.errorString" = "*errors.errorString" by decide]; exact h)
theorem structES : ∃ f : Field, Tryz.prog.underlying 244 = some (.struct #[f]) ∧ f.type = 9 ∧ f.offset = 0 := ⟨_, Tryz.underlying244, rfl, rfl⟩
/-- The names of the listed sentinels, and their texts, by code. -/
def sentN : List (String × List UInt8) := [("philtre/api.ErrForm", [102, 111, 114, 109]), ("philtre/api.ErrShort", [115, 104, 111, 114, 116]), ("philtre/api.ErrLong", [108, 111, 110, 103]), ("philtre/api.ErrRange", [114, 97, 110, 103, 101]), ("philtre/api.ErrKind", [107, 105, 110, 100]), ("philtre/api.ErrTwice", [116, 119, 105, 99, 101]), ("philtre/api.ErrFull", [102, 117, 108, 108]), ("philtre/api.ErrBadOp", [98, 97, 100, 32, 111, 112]), ("philtre/api.ErrBadBatch", [98, 97, 100, 32, 98, 97, 116, 99, 104]), ("philtre/api.ErrStaleBatch", [115, 116, 97, 108, 101, 32, 98, 97, 116, 99, 104]), ("philtre/api.ErrTooManyReaders", [116, 111, 111, 32, 109, 97, 110, 121, 32, 114, 101, 97, 100, 101, 114, 115]), ("philtre/api.ErrNoWatcher", [110, 111, 32, 119, 97, 116, 99, 104, 101, 114]), ("philtre/api.ErrTooManyWatchers", [116, 111, 111, 32, 109, 97, 110, 121, 32, 119, 97, 116, 99, 104, 101, 114, 115]), ("philtre/api.ErrOverflow", [111, 118, 101, 114, 102, 108, 111, 119]), ("philtre/api.ErrScript", [115, 99, 114, 105, 112, 116]), ("philtre/api.ErrNone", [110, 111, 110, 101]), ("philtre/api.ErrFreed", [102, 114, 101, 101, 100]), ("philtre/api.ErrBounds", [98, 111, 117, 110, 100, 115]), ("philtre/api.ErrUnknown", [117, 110, 107, 110, 111, 119, 110])]
def sentL : List (String × DataW Unit) := sentN.map fun x => (x.1, sentD x.2)
theorem sent_globals : ((sentN.map (·.1)).zip sentG).all (fun x => decide (Tryz.prog.globalNamed x.1 = some x.2) && decide ((Tryz.prog.globals[x.2]?).map (·.type) = some 26)) = true := by kernel_rfl
set_option maxRecDepth 100000 in
theorem sents_at : ∀ (l : List ((String × List UInt8) × Nat)) (post : List (String × DataW Unit)) (W : World) (ps : List MemPlace),
    (∀ x ∈ l, Tryz.prog.globalNamed x.1.1 = some x.2 ∧ (Tryz.prog.globals[x.2]?).map (·.type) = some 26) →
    DataW.LaidVars Tryz.prog W ((l.map fun x => (x.1.1, sentD x.1.2)) ++ post) ps → ps.Nodup →
    (∀ b off, MemPlace.cell b off ∈ ps → (∃ c t, W.heap[b]? = some (.cells c t (0, 0))) ∧ ∀ u v, W.cell? ⟨b, off, none⟩ = some (.iface u v) → Value.okWide Tryz.prog W .any 0 u v) →
    ∃ A : List Addr, A.length = l.length ∧ A.Nodup ∧ (∀ a ∈ A, MemPlace.cell a.block a.off ∈ ps ∧ ∃ c t, W.heap[a.block]? = some (.cells c t (0, 0))) ∧
      ∀ (i : Nat) x a, l[i]? = some x → A[i]? = some a → W.cell? ⟨x.2, 0, none⟩ = some (.iface 242 (.pointer (some a)))
  | [], post, W, ps, _, _, _, _ => ⟨[], rfl, List.nodup_nil, by simp, by simp⟩
  | ((n, t), gn) :: l, post, W, ps, hg, hv, hnd, hrows => by
    obtain ⟨g0, t0, cs0, f0, p0, q0, hg0, ht0, hv0, hd0, hq, rfl⟩ := hv
    obtain ⟨e1, e2⟩ := hg ((n, t), gn) (by simp)
    simp only at e1 e2
    obtain rfl := Option.some.inj (e1.symm.trans hg0)
    obtain rfl := Option.some.inj (e2.symm.trans ht0)
    obtain ⟨l0⟩ := cs0
    have ok0 : ∀ u v, l0 = [.iface u v] → Value.okWide Tryz.prog W .any 0 u v := fun u v e => by
      subst e
      exact (hrows gn 0 (by simp [MemPlace.row])).2 u v (by simpa using World.var?_cell hg0 hv0 0)
    obtain ⟨f, hf, hft, hfo⟩ := structES
    obtain ⟨a0, s0, rfl, hc0, hs0, hz0, rfl⟩ := errorString_of_trod Tryz.underlying26 rowES Tryz.underlying242 hf hft hfo Tryz.underlying9 (by kernel_rfl) (by kernel_rfl) hd0 ok0
    obtain ⟨A, h1, h2, h3, h4⟩ := sents_at l post W q0 (fun x hx => hg x (by simp [hx])) hq (hnd.sublist (List.sublist_append_right _ _)) (fun b off hm => hrows b off (List.mem_append_right _ hm))
    refine ⟨a0 :: A, by simp [h1], List.nodup_cons.2 ⟨fun hm => ?_, h2⟩, fun a ha => ?_, fun i x a hx ha => ?_⟩
    · have h5 := (h3 a0 hm).1
      rw [List.nodup_append] at hnd
      exact hnd.2.2 _ (List.mem_append_right _ (by simp [MemPlace.row])) _ h5 rfl
    · rcases List.mem_cons.1 ha with rfl | ha
      · exact ⟨List.mem_append_left _ (List.mem_append_right _ (by simp [MemPlace.row])), (hrows a.block a.off (List.mem_append_left _ (List.mem_append_right _ (by simp [MemPlace.row])))).1⟩
      · exact ⟨List.mem_append_right _ (h3 a ha).1, (h3 a ha).2⟩
    · rcases i with _ | i
      · simp only [List.getElem?_cons_zero, Option.some.injEq] at hx ha
        subst hx ha
        simpa using World.var?_cell hg0 hv0 0
      · simp only [List.getElem?_cons_succ] at hx ha
        exact h4 i x a hx ha
theorem sent_of_laid {post : List (String × DataW Unit)} {W : World} (h : laidMet Tryz.prog (sentL ++ post) W) : ∃ sv, Sent W sv := by
  obtain ⟨ps, hv, hnd, hrows⟩ := h
  have hl : (sentN.zip sentG).map (fun x => (x.1.1, sentD x.1.2)) = sentL := rfl
  rw [← hl] at hv
  have hg : ∀ x ∈ sentN.zip sentG, Tryz.prog.globalNamed x.1.1 = some x.2 ∧ (Tryz.prog.globals[x.2]?).map (·.type) = some 26 := by
    have h0 : (sentN.zip sentG).all (fun x => decide (Tryz.prog.globalNamed x.1.1 = some x.2) && decide ((Tryz.prog.globals[x.2]?).map (·.type) = some 26)) = true := by kernel_rfl
    intro x hx
    have := List.all_eq_true.1 h0 x hx
    rw [Bool.and_eq_true, decide_eq_true_eq, decide_eq_true_eq] at this
    exact this
  obtain ⟨A, h1, h2, h3, h4⟩ := sents_at _ post W ps hg hv hnd hrows
  have hlen : A.length = 19 := h1
  refine ⟨fun i => A.getD i ⟨0, 0, none⟩, ⟨fun i hi => ?_, fun i j hi hj e => ?_, fun i hi => ?_⟩⟩
  · have hA : A[i]? = some (A.getD i ⟨0, 0, none⟩) := by rw [List.getD_eq_getElem?_getD, List.getElem?_eq_getElem (by omega)]; rfl
    have hz : (sentN.zip sentG)[i]? = some ((sentN.zip sentG)[i]'(by show i < 19; exact hi)) := List.getElem?_eq_getElem _
    have hgi : ((sentN.zip sentG)[i]'(by show i < 19; exact hi)).2 = sentG.getD i 0 := by
      rw [List.getElem_zip, List.getD_eq_getElem?_getD, List.getElem?_eq_getElem (by show i < 19; exact hi)]
      rfl
    rw [← hgi]
    exact h4 i _ _ hz hA
  · simp only [List.getD_eq_getElem?_getD, List.getElem?_eq_getElem (show i < A.length by omega), List.getElem?_eq_getElem (show j < A.length by omega), Option.getD_some] at e
    exact (List.getElem?_inj (show i < A.length by omega) h2).1 (by rw [List.getElem?_eq_getElem (show i < A.length by omega), List.getElem?_eq_getElem (show j < A.length by omega), e])
  · have hm : A.getD i ⟨0, 0, none⟩ ∈ A := by
      rw [List.getD_eq_getElem?_getD, List.getElem?_eq_getElem (by omega)]
      exact List.getElem_mem _
    exact (h3 _ hm).2
/-! ### lists with more than the sentinels -/
theorem laidVars_drop : ∀ (pre : List (String × DataW Unit)) {l : List (String × DataW Unit)} {W : World} {ps : List MemPlace}, DataW.LaidVars Tryz.prog W (pre ++ l) ps → ∃ qs rs, ps = qs ++ rs ∧ DataW.LaidVars Tryz.prog W l rs
  | [], _, _, ps, h => ⟨[], ps, rfl, h⟩
  | (n, d) :: pre, l, W, ps, h => by
    obtain ⟨g, t, cs, fuel, p, q, _, _, _, _, hq, rfl⟩ := h
    obtain ⟨qs, rs, rfl, hr⟩ := laidVars_drop pre hq
    exact ⟨MemPlace.row ⟨g, 0, none⟩ cs.size ++ p ++ qs, rs, by simp, hr⟩
theorem laidMet_drop {pre l : List (String × DataW Unit)} {W : World} (h : laidMet Tryz.prog (pre ++ l) W) : laidMet Tryz.prog l W := by
  obtain ⟨ps, hv, hnd, hrows⟩ := h
  obtain ⟨qs, rs, rfl, hr⟩ := laidVars_drop pre hv
  exact ⟨rs, hr, (List.nodup_append.1 hnd).2.1, fun b off hm => hrows b off (List.mem_append_right _ hm)⟩
end Go.Proofs.YtpkkjoiglemlgaaGreatDoor

/-
  A world in which the sentinels lie as their initialisers lay them: for the witnesses. No condition.
-/
namespace Go.Proofs.YtpkkjoiglemlgaaGreatDoor
set_option linter.unusedVariables false
noncomputable def low : Nat := (World.holding Tryz.prog default ⟨#[], #[], []⟩).heap.size
noncomputable def putVar (h : Array Obj) (g : Nat) (cs : Array Value) : Array Obj := h.modify g fun
  | .cells _ t frozen => .cells cs t frozen
  | o => o
noncomputable def sentBlocks : Array Obj := (sentN.map fun x => Obj.cells #[.string ⟨x.2.toArray⟩] 244).toArray
noncomputable def sentPut (h : Array Obj) : Array Obj := (sentG.zipIdx).foldl (fun h x => putVar h x.1 #[.iface 242 (.pointer (some ⟨low + x.2, 0, none⟩))]) h
/-- The sentinels lie behind what start-up lays. -/
noncomputable def laidWorld (os : Os) : World :=
  let w0 := World.holding Tryz.prog os ⟨sentBlocks, #[], []⟩
  { w0 with heap := sentPut w0.heap }
end Go.Proofs.YtpkkjoiglemlgaaGreatDoor
