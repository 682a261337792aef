/-
  strings.Builder at a builder of the call's own: what the writing methods do. No condition.
-/
import Derived.Test.YtmifgjkikbgmiaaDoorSeptet
import Derived.Test.YtmifgjkikbgmiaaDoorFr
import Derived.Test.YtmifgjkikbgmiaaDoorKits
import Derived.Lib.Builder
import Derived.Lib.AppendStr
import Derived.Lib.UnsafeStr
import Derived.Laws.Externs
namespace Go.Proofs.YtmifgjkikbgmiaaDoor
set_option linter.unusedVariables false
open Go.RowKit Go.Extern.Stop Go.Stop Go.Extern Go.ChangeShapes

section
variable {P : Program} (w : World)
theorem append_str_loc (base : Nat) (t u ty e : TypeId) (i : TypeInfo) (ht : P.underlying t = some (.slice e)) (hu : P.underlying u = some .string) (hi : P.info? e = some i) (hz : i.zero = some (.int .u8 0))
    (hsize : i.size = 1) (hby : i.bytes = 1)
    (v : Value) (n : Nat) (xs : List Value) (hown : w.ownsRow base e 1 v n xs) (s : ByteArray)
    (h63 : n + s.size ≤ maxLen) (hbytes : n + s.size ≤ 140737488355328) (hbase : base ≤ w.heap.size) :
    ∃ v' w', (Builtin.append_ #[t, u] ty #[v, .string s]).run P w = .ok v' w' ∧ w'.ownsRow base e 1 v' (n + s.size) (xs ++ Lib.strCells s) ∧ w.grownBy w' v.ownBlock ∧
      (v'.ownBlock = v.ownBlock ∨ ∀ g, v'.ownBlock = some g → w.heap.size ≤ g) := by
  obtain ⟨v', w', hr, h2, h3, h4⟩ := Lib.run_append_own_string (P := P) w base t u ty e i ht hu hi hz hsize hby v n xs hown s h63 hbytes hbase
  refine ⟨v', w', hr, h2, h3, ?_⟩
  have hsmall : n + s.size ≤ 9223372036854775807 := by simp only [maxLen] at h63; omega
  rcases hown.2 with ⟨rfl, rfl⟩ | ⟨g, cap, cur, rfl, hbg, hg, hnc, hcm, hcs, htake⟩
  · by_cases hm : s.size = 0
    · exact .inl (by rw [h4.2 ⟨rfl, hm⟩])
    · have hr2 := run_append_nil_string (P := P) w t u ty e i (.int .u8 0) ht hu hi hz s (by omega) (by omega) (by rw [hby]; omega)
      rw [hr] at hr2
      injection hr2 with e1 e2
      refine .inr fun k hk => ?_
      rw [e1] at hk
      simp [Value.ownBlock] at hk
      omega
  · by_cases hroom : n + s.size ≤ cap
    · have hcs' : cur.size = cap := by simpa using hcs
      have hr2 := Lib.run_append_room_string (P := P) w t u ty e i ht hu hi hsize g n cap cur hg s hroom (by omega)
      rw [hr] at hr2
      injection hr2 with e1 e2
      exact .inl (by rw [e1]; rfl)
    · have holds : ∀ j u, xs[j]? = some u → w.cell? ((⟨g, 0, none⟩ : Addr).add j) = some u := hown.cells (g := g) rfl
      have hr2 := Lib.run_append_grow_string (P := P) w t u ty e i (.int .u8 0) ht hu hi hz ⟨g, 0, none⟩ n cap xs (by rw [hsize]; simpa using hown.1) holds s (by omega) (by omega) (by rw [hby]; exact growslice_fits (by omega) (by omega))
      rw [hr] at hr2
      injection hr2 with e1 e2
      refine .inr fun k hk => ?_
      rw [e1] at hk
      simp [Value.ownBlock] at hk
      omega
theorem wpList_append_str {ops : Array Oper} {rest : List Oper} {o : Oper} {a : Act} {Q : Exit → Act → World → Prop} (hgd : o.guard = none) (sl x : Operand) (t u : TypeId)
    (ho : o.op = .call { callee := .builtin .append, args := #[sl, x], argTypes := #[t, u] })
    (base : Nat) (e : TypeId) (i : TypeInfo) (ht : P.underlying t = some (.slice e)) (hu : P.underlying u = some .string) (hi : P.info? e = some i) (hz : i.zero = some (.int .u8 0))
    (hsize : i.size = 1) (hby : i.bytes = 1)
    (v : Value) (n : Nat) (xs : List Value) (hs : a.eval sl = v) (hown : w.ownsRow base e 1 v n xs) (s : ByteArray) (hx : a.eval x = .string s)
    (h63 : n + s.size ≤ maxLen) (hbytes : n + s.size ≤ 140737488355328) (hbase : base ≤ w.heap.size)
    (h : ∀ v' w', w'.ownsRow base e 1 v' (n + s.size) (xs ++ Lib.strCells s) → w.grownBy w' v.ownBlock → (v'.ownBlock = v.ownBlock ∨ ∀ g, v'.ownBlock = some g → w.heap.size ≤ g) → wpList P ops Q rest (a.put o.dst v') w') : wpList P ops Q (o :: rest) a w := by
  refine wpList_plain hgd fun K hK => ?_
  obtain ⟨v', w', hr, h2, h3, h4⟩ := append_str_loc (P := P) w base t u o.type e i ht hu hi hz hsize hby v n xs hown s h63 hbytes hbase
  unfold Oper.wp execOp
  simp only [ho, resolve, invoke, builtin, Sem.run_bind, Sem.run_pure, Result.andThen_ok, List.map_toArray, List.map_cons, List.map_nil, hs, hx, hr]
  exact hK _ _ (h v' w' h2 h3 h4)
end
/-- Block b is a builder that holds just l; all it has lies in F. -/
structure Bld (w : World) (F : Nat → Prop) (b : Nat) (l : List UInt8) : Prop where
  own : In F w
  hF : F b
  is : ∃ p v, Blk w b 64 #[p, v] ∧ (p = .pointer none ∨ p = .pointer (some ⟨b, 0, none⟩)) ∧ w.ownsRow 0 5 1 v l.length (Lib.byteCells l) ∧ ∀ g, v.ownBlock = some g → F g
theorem Bld.keep {w w' : World} {F : Nat → Prop} {b : Nat} {l : List UInt8} (h : Bld w F b l) (hs : w.heap.size ≤ w'.heap.size) (hk : ∀ k, F k → w'.heap[k]? = w.heap[k]?) : Bld w' F b l := by
  obtain ⟨p, v, h1, h2, h3, h4⟩ := h.is
  refine ⟨h.own.mono hs, h.hF, p, v, h1.keep (hk _ h.hF), h2, ⟨h3.1, h3.2.imp id fun ⟨g, cap, cur, e1, e2, e3, r⟩ => ⟨g, cap, cur, e1, e2, (hk g (h4 g (by rw [e1]; rfl))).trans e3, r⟩⟩, h4⟩
theorem Bld.below {w w' : World} {F : Nat → Prop} {b : Nat} {l : List UInt8} (h : Bld w F b l) (hb : Below w.heap.size w w') : Bld w' F b l := h.keep hb.size fun k hk => hb.block k (h.own k hk)
theorem Bld.mono {w : World} {F G : Nat → Prop} {b : Nat} {l : List UInt8} (h : Bld w F b l) (hG : In G w) (hF : ∀ k, F k → G k) : Bld w G b l := by
  obtain ⟨p, v, h1, h2, h3, h4⟩ := h.is
  exact ⟨hG, hF _ h.hF, p, v, h1, h2, h3, fun g hg => hF _ (h4 g hg)⟩
theorem Bld.lib {w : World} {F : Nat → Prop} {b : Nat} {l : List UInt8} (h : Bld w F b l) {B : Nat} (hB : ∀ k, F k → B ≤ k) : Lib.IsBuilder 64 5 B b (Lib.byteCells l) w := by
  obtain ⟨p, v, h1, h2, h3, h4⟩ := h.is
  have hne := Lib.ownBlock_ne h3 h1 (by decide : 64 ≠ 5)
  have h5 : Lib.BuilderAt 64 5 B b p (Lib.byteCells l) w := ⟨hB b h.hF, v, h1, by
    rw [Lib.byteCells_length]
    exact ⟨h3.1, h3.2.imp id fun ⟨g, cap, cur, e1, e2, r⟩ => ⟨g, cap, cur, e1, hB g (h4 g (by rw [e1]; rfl)), r⟩⟩, hne⟩
  rcases h2 with rfl | rfl
  · exact .inl h5
  · exact .inr h5
/-- The writer has left the builder so, and nothing else that was there has turned. -/
def Wrote (F : Nat → Prop) (b : Nat) (l : List UInt8) (w w' : World) : Prop := Bld w' (nw F w w') b l ∧ Chg F w w'
theorem bldSize : (Tryd.prog.info? 64).map (·.size) = some 2 := by kernel_rfl
theorem bldLies : liesAt Tryd.prog Tryd.prog.depth 64 (2 / Tryd.prog.cellsOf 64) 0 64 1 = true := by kernel_rfl
theorem noEscape (x : Value) (w : World) : (callFunc 52 #[x]).run Tryd.prog w = .ok (.value x) w := by
  rw [@run_callFunc_extern Tryd.prog 52 _ Extern.AbiNoEscape.same Tryd.func52 (by kernel_rfl) (by kernel_rfl) (by kernel_rfl) (by kernel_rfl), Lib.run_noEscape]
  rfl
set_option maxHeartbeats 1000000 in
theorem copyCheck_any (b : Nat) (p v : Value) (w : World) (h : Blk w b 64 #[p, v]) (hp : p = .pointer none ∨ p = .pointer (some ⟨b, 0, none⟩)) :
    Calls Tryd.prog 44 #[.pointer (some ⟨b, 0, none⟩)] w fun e w' => e = .returned (.tuple #[]) ∧ Blk w' b 64 #[.pointer (some ⟨b, 0, none⟩), v] ∧ Chg (fun k => k = b) w w' := by
  obtain ⟨j, hj, hjs⟩ := Option.map_eq_some_iff.1 bldSize
  have h0 := h.cell 0
  have hsh : w.shape? b = some (64, 2) := by unfold Blk at h; simp [World.shape?, h]
  have hfz := h.frozen 0
  rcases hp with rfl | rfl
  · have k1 : ∀ w', w'.shape? b = some (64, 2) → (convert 61 91 (.pointer (some ⟨b, 0, none⟩))).run Tryd.prog w' = .ok (.pointer (some ⟨b, 0, none⟩)) w' := fun w' hw => Lib.run_to_unsafe w' ⟨b, 0, none⟩ Tryd.underlying61 Tryd.underlying91 hj (by rw [hjs]; decide) hw (Nat.zero_lt_succ 1)
    have k2 : ∀ w', w'.shape? b = some (64, 2) → (convert 91 61 (.pointer (some ⟨b, 0, none⟩))).run Tryd.prog w' = .ok (.pointer (some ⟨b, 0, none⟩)) w' := fun w' hw => Lib.run_from_unsafe w' ⟨b, 0, none⟩ Tryd.underlying91 Tryd.underlying61 hj hw bldLies
    have k1 := k1 w hsh
    have k2 := k2 w hsh
    have k3 := noEscape
    replace h := Lib.hid h
    go_enter Tryd.func44, Tryd.ntmps44
    go_wp2
    go_end0
    refine ⟨rfl, Blk.eq_cs (h.out.set_ 0 _) rfl, ?_⟩
    (repeat first | exact Chg.refl _ _ | assumption | refine Chg.drew ?_ | refine Chg.drewN ?_ _ | refine Chg.alloc ?_ _ | refine Chg.setCell ?_ (by first | (left; rfl) | (left; assumption) | (right; exact Nat.le_refl _) | (right; simp; done) | (right; simp; omega)) _ | refine Chg.setBlock ?_ (by first | (left; rfl) | (left; assumption) | (right; exact Nat.le_refl _) | (right; simp; done) | (right; simp; omega)) _)
  · have k1 := fun w' => Lib.run_neq_ptr_same (P := Tryd.prog) w' ⟨b, 0, none⟩ Tryd.underlying61 hj
    replace h := Lib.hid h
    go_enter Tryd.func44, Tryd.ntmps44
    go_wp2
    go_end0
    exact ⟨rfl, h.out, Chg.refl _ _⟩
theorem wrote_put {F : Nat → Prop} {b : Nat} {l l' : List UInt8} {w w1 w2 w3 : World} {v v' : Value} (h : Bld w F b l) (hc1 : Chg (fun k => k = b) w w1) (hv : ∀ g, v.ownBlock = some g → F g) (hne : v.ownBlock ≠ some b) (hs : w1.heap.size ≤ w2.heap.size) (hk : ∀ k, k < w1.heap.size → w2.heap[k]? = w1.heap[k]?)
    (hos : w2.os = w1.os ∧ w2.tape = w1.tape ∧ w2.output = w1.output)
    (hg : w2.grownBy w3 v.ownBlock) (hbk : Blk w1 b 64 #[.pointer (some ⟨b, 0, none⟩), v]) (hown : w3.ownsRow 0 5 1 v' l'.length (Lib.byteCells l')) (hloc : v'.ownBlock = v.ownBlock ∨ ∀ g, v'.ownBlock = some g → w2.heap.size ≤ g) :
    Wrote F b l' w (w3.setCell ⟨b, 1, none⟩ v') := by
  have hbw := h.own b h.hF
  have s1 := hc1.size
  have s2 := hg.size
  have hb3 : Blk w3 b 64 #[.pointer (some ⟨b, 0, none⟩), v] := (hg.block b (by omega) (fun e => hne e.symm)).trans ((hk b (by omega)).trans hbk)
  have hne' := Lib.ownBlock_ne hown hb3 (by decide : 64 ≠ 5)
  have hlt' := fun g hg => (World.ownsRow.lt hown g hg).2
  have hch : Chg F w (w3.setCell ⟨b, 1, none⟩ v') := by
    refine ⟨hg.os.trans (hos.1.trans hc1.os), hg.tape.trans (hos.2.1.trans hc1.tape), hg.output.trans (hos.2.2.trans hc1.output), by simp [World.setCell]; omega, fun k hk2 hn => ?_⟩
    have e1 : (w3.setCell ⟨b, 1, none⟩ v').heap[k]? = w3.heap[k]? := Below.heap_setCell _ _ _ _ (fun e => hn (e ▸ h.hF))
    rw [e1, hg.block k (by omega) (fun e => hn (hv k e.symm)), hk k (by omega)]
    exact hc1.block k hk2 (fun e => hn (e ▸ h.hF))
  refine ⟨⟨h.own.nw hch.size, .inl h.hF, _, v', Blk.eq_cs (hb3.set_ 1 v') rfl, .inr rfl, ?_, fun g hg' => ?_⟩, hch⟩
  · exact hown.kept (row := some b) ⟨rfl, rfl, rfl, by simp [World.setCell], fun k _ hk => Below.heap_setCell _ _ _ _ (fun e => hk (by simp [e]))⟩ (Or.inr hne')
  · rcases hloc with e | e
    · exact .inl (hv g (e ▸ hg'))
    · exact .inr ⟨by have := e g hg'; omega, by simp [World.setCell]; exact hlt' g hg'⟩
set_option maxHeartbeats 1000000 in
theorem writeByte_any {F : Nat → Prop} (b : Nat) (l : List UInt8) (c : UInt8) (w : World) (h : Bld w F b l) (hlen : l.length + 1 ≤ 140737488355328) :
    Calls Tryd.prog 34 #[.pointer (some ⟨b, 0, none⟩), .int .u8 (u8i c)] w fun e w' => e = .returned .nilIface ∧ Wrote F b (l ++ [c]) w w' := by
  obtain ⟨i0, hi, hz0, hz1, hz2⟩ := info_parts infoU8
  obtain ⟨p, v, h1, h2, h3, h4⟩ := h.is
  have hne := Lib.ownBlock_ne h3 h1 (by decide : 64 ≠ 5)
  have hC := copyCheck_any b p v w h1 h2
  replace hC := Lib.hid hC
  replace h := Lib.hid h
  replace h4 := Lib.hid h4
  clear h1
  go_enter Tryd.func34, Tryd.ntmps34
  go_wp2_with fail
  refine (hC.out).mono ?_; rintro e w1 ⟨rfl, hbk, hc1⟩
  have c0 := hbk.cell 0
  have c1 := hbk.cell 1
  have hown : w1.ownsRow 0 5 1 v l.length (Lib.byteCells l) := h3.kept (row := some b) ⟨hc1.os, hc1.tape, hc1.output, hc1.size, fun k hk hn => hc1.block k hk (fun e => hn (e ▸ rfl))⟩ (.inr hne)
  replace hbk := Lib.hid hbk
  replace hne := Lib.hid hne
  go_wp2_with (at_builtin; go_loud (refine wpList_append_any _ rfl _ _ 62 rfl 0 5 i0 (.int .u8 0) 1 1 Tryd.underlying62 hi hz0 hz1 hz2 rfl (by decide) _ _ _ rfl (hown.alloc _) (w1.heap.size + 1) (some ⟨w1.heap.size, 0, none⟩) 1 1 [.int .u8 (u8i c)] rfl (reads_new w1 5 (.int .u8 (u8i c))) (by simp [Value.oneCell']) (by unfold maxLen; omega) (by omega) (by omega) ?_; intro v' w2 hown' hgrow hloc; have hlt : b < w1.heap.size := (Array.getElem?_eq_some_iff.1 hbk.out).1; have hb2 : Blk w2 b 64 #[.pointer (some ⟨b, 0, none⟩), v] := (hgrow.block b (by simp; omega) (fun e => hne.out e.symm)).trans ((Below.heap_alloc w1 _ b hlt).trans hbk.out); have d0 := hb2.cell 0; have d1 := hb2.cell 1; have f1 := hb2.frozen 1; have hb2 := Lib.hid hb2; obtain ⟨ao, n', cap, rfl⟩ : ∃ ao n' cap, v' = .slice ao n' cap := (by rcases hown'.2 with ⟨hv, _⟩ | ⟨g, cap, cur, hv, _⟩ <;> exact ⟨_, _, _, hv⟩)))
  go_ret
  refine ⟨rfl, wrote_put h.out hc1 h4.out hne.out (by simp) (fun k hk => Below.heap_alloc w1 _ k hk) ⟨rfl, rfl, rfl⟩ hgrow hbk.out ?_ (hloc.imp id fun e g hg => ?_)⟩
  · rw [Lib.byteCells_append, show Lib.byteCells [c] = [.int .u8 (u8i c)] from rfl]
    simpa using hown'
  · rw [e] at hg
    simp at hg
    simp; omega
theorem bld_new (w : World) : Bld (w.alloc (.cells #[.pointer none, .slice none 0 0] 64)) (fun k => k = w.heap.size) w.heap.size [] :=
  ⟨fun k hk => by simp [hk], rfl, _, _, Blk.new _ _ _, .inl rfl, World.ownsRow_nil _ _ _ _, fun g hg => by simp [Value.ownBlock] at hg⟩
theorem string_any {F : Nat → Prop} (b : Nat) (l : List UInt8) (w : World) (h : Bld w F b l) {B : Nat} (hB : ∀ k, F k → B ≤ k) :
    Calls Tryd.prog 35 #[.pointer (some ⟨b, 0, none⟩)] w fun e w' => e = .returned (strL l) ∧ Below B w w' := Tryd.Builder_String_any B b l w (h.lib hB) (by have := hB b h.hF; have := h.own b h.hF; omega)
theorem Wrote.start {w : World} {F : Nat → Prop} {b : Nat} {l : List UInt8} (h : Bld w F b l) : Wrote F b l w w :=
  ⟨h.mono (h.own.nw (Nat.le_refl _)) fun _ h => .inl h, Chg.refl _ _⟩
theorem Wrote.next_ {w w1 w2 w3 : World} {F : Nat → Prop} {b : Nat} {l l' : List UInt8} (h : Wrote F b l w w1) (hb : Below w1.heap.size w1 w2) (h2 : Wrote (nw F w w1) b l' w2 w3) : Wrote F b l' w w3 := by
  have s1 := h.2.size
  have s2 := hb.size
  have s3 := h2.2.size
  have hc : Chg F w w2 := h.2.next_ hb
  refine ⟨h2.1.mono (fun j hj => ?_) (fun j hj => ?_), hc.trans h2.2 fun j hj => hj.imp id fun h => h.1⟩
  · rcases hj with hj | hj
    · exact Nat.lt_of_lt_of_le (h.1.own j (.inl hj)) (by omega)
    · exact hj.2
  · rcases hj with (hj | hj) | hj
    · exact .inl hj
    · exact .inr ⟨hj.1, by omega⟩
    · exact .inr ⟨by omega, hj.2⟩
end Go.Proofs.YtmifgjkikbgmiaaDoor
