/-
  opcode's reader: count, kind, text. No condition.
-/
import Derived.Test.YtpmnppjiipbonaaDoorOpR
import Derived.Deep.RegionWith
import Derived.Deep.RegionHeld3
import Derived.Deep.RegionLaw
namespace Go.Proofs.YtpmnppjiipbonaaDoor
set_option linter.unusedVariables false
open Go.RowKit Go.Extern.Stop Go.Stop Go.Extern Go.ChangeShapes

/-- A reader: its text, its place, its error. -/
def Rd (w : World) (rb : Nat) (s : ByteArray) (p : Int) (v : Value) : Prop := Blk w rb 101 #[.string s, .int .i64 p, v]
theorem nil_cell {w : World} {rb : Nat} {s : ByteArray} {p : Int} {v : Value} (h : Rd w rb s p v) : w.cell? ⟨rb, 0, none⟩ = some (.string s) ∧ w.cell? ⟨rb, 1, none⟩ = some (.int .i64 p) ∧ w.cell? ⟨rb, 2, none⟩ = some v ∧ w.frozen? ⟨rb, 1, none⟩ = false ∧ w.frozen? ⟨rb, 2, none⟩ = false :=
  ⟨Blk.cell h 0, Blk.cell h 1, Blk.cell h 2, Blk.frozen h 1, Blk.frozen h 2⟩
theorem rd_err {w : World} {rb : Nat} {s : ByteArray} {p : Int} {v : Value} (h : Rd w rb s p v) (u : Value) : Rd (w.setCell ⟨rb, 2, none⟩ u) rb s p u := Blk.eq_cs (Blk.set_ h 2 u) rfl
theorem rd_at {w : World} {rb : Nat} {s : ByteArray} {p : Int} {v : Value} (h : Rd w rb s p v) (q : Int) : Rd (w.setCell ⟨rb, 1, none⟩ (.int .i64 q)) rb s q v := Blk.eq_cs (Blk.set_ h 1 _) rfl
/-- An error is below its chain: it stays where only what lies off its blocks turns. -/
theorem err_set {w : World} {sv : Nat → Addr} {rb : Nat} {s : ByteArray} {p : Int} {u : Value} (hR : Rd w rb s p u) (i : Nat) (x : Value) : ∀ {ps : List Int} {v : Value} {j : Nat}, ErrIs w sv v ps j → ErrIs (w.setCell ⟨rb, i, none⟩ x) sv v ps j
  | [], _, _, h => h
  | _ :: _, _, _, ⟨b, u', h, hB, k⟩ => ⟨b, u', h, Blk.far hB (show b ≠ rb from Blk.ne_ hB (show Blk w rb 101 #[.string s, .int .i64 p, u] from hR) (by decide)) _, err_set hR i x k⟩
theorem tk_nil {w : World} {sv : Nat → Addr} {v : Value} {p : Int} (h : TkErr w sv v p 0) : v = .nilIface := by
  rcases h with ⟨_, h⟩ | ⟨h, _⟩
  · exact h
  · exact absurd rfl h
/-- The reader has failed: what it says of the rest. -/
theorem count_err {w : World} (rb : Nat) (s : ByteArray) (p : Int) (t : TypeId) (u : Value) (m c : Int) (h : Rd w rb s p (.iface t u)) :
    Calls Tryd.prog 53 #[.pointer (some ⟨rb, 0, none⟩), .int .i64 m, .int .i64 c] w fun e w' => e = .returned (.int .i64 0) ∧ w = w' := by
  obtain ⟨_, _, c2, _, _⟩ := nil_cell h
  go_enter Tryd.func53, Tryd.ntmps53
  go_wp2_with fail
  go_ret
  exact ⟨rfl, rfl⟩
/-- The sentinels stay where a reader's block turns. -/
theorem sent_chg {w w' : World} {sv : Nat → Addr} {rb : Nat} {s s' : ByteArray} {p p' : Int} {v v' : Value} (S : Sent w sv) (h : Rd w rb s p v) (h' : Rd w' rb s' p' v') (hc : Chg (fun k => k = rb) w w') : Sent w' sv := by
  refine ⟨fun i hi => ?_, S.inj, fun i hi => ?_⟩
  · have hv := S.var i hi
    refine (hc.cell (cell_lt hv) (fun e => ?_)).trans hv
    have h0 := Blk.cell h 0
    simp only at e
    rw [e, h0] at hv
    cases hv
  · obtain ⟨cs, t, hr⟩ := S.row i hi
    by_cases e : (sv i).block = rb
    · rw [e]; exact ⟨_, _, h'⟩
    · exact ⟨cs, t, (hc.block _ (Array.getElem?_eq_some_iff.1 hr).1 e).trans hr⟩
/-- What a count is, at a place. -/
def cnt (s : ByteArray) (p : Int) (m : Nat) (c : Int) : Except Int (Nat × Int) := if (tk s p).2.2 ≠ 0 then .error (tk s p).2.2 else if m < (tk s p).1 then .error c else .ok ((tk s p).1, (tk s p).2.1)
/-- What a reader's call has left: its answer, or its error at a place. -/
def RdOut (rb : Nat) (s : ByteArray) (sv : Nat → Addr) (p : Int) (r : Except Int (Nat × Int)) (n : Int) (w' : World) : Prop := match r with
  | .ok x => n = x.1 ∧ Rd w' rb s x.2 .nilIface
  | .error c => n = 0 ∧ ∃ q v, Rd w' rb s q v ∧ ErrIs w' sv v [p] (sIdx c)
set_option maxRecDepth 100000 in
set_option maxHeartbeats 2000000 in
theorem count_any {w : World} {sv : Nat → Addr} (S : Sent w sv) (rb : Nat) (s : ByteArray) (p : Int) (m : Nat) (c : Int) (hs : s.size ≤ 1000000) (hm : m ≤ 1000000) (hc : c ≠ 0) (h : Rd w rb s p .nilIface) :
    Calls Tryd.prog 53 #[.pointer (some ⟨rb, 0, none⟩), .int .i64 m, .int .i64 c] w fun e w' => ∃ n, e = .returned (.int .i64 n) ∧ RdOut rb s sv p (cnt s p m c) n w' ∧ Chg (fun k => k = rb) w w' := by
  have hT := Lib.hid (fun W (hW : Below w.heap.size w W) => take_any (S.below hW) s p hs)
  have hN := Lib.hid (fun W (hW : Below w.heap.size w W) => new_any (S.below hW) c)
  have hnv : newV sv c = .iface 187 (.pointer (some (sv (sIdx c)))) := by unfold newV; rw [if_neg hc]
  rw [hnv] at hN
  have hA := Lib.hid (fun (W : World) => at_any (w := W) p _ [] (sIdx c) (ErrIs.leaf (sv := sv) _ (sIdx_lt c)))
  have hbl := h.lt
  have hRd := Lib.hid (fun W (hW : Below w.heap.size w W) => (Blk.below h hW hbl : Rd W rb s p .nilIface))
  obtain ⟨c0, c1, c2, _, _⟩ := nil_cell h
  have hlt := tk_lt s p
  have hd0 : Below w.heap.size w w.drew := (Below.refl _ _).drew
  clear S hnv
  unfold cnt
  by_cases h1 : (tk s p).2.2 ≠ 0
  · rw [if_pos h1]
    generalize (tk s p).1 = k at *
    generalize (tk s p).2.1 = b1 at *
    generalize (tk s p).2.2 = c1' at *
    replace h1 := Lib.hid h1
    replace h := Lib.hid h
    go_enter Tryd.func53, Tryd.ntmps53
    go_wp2_with fail
    go_region_held3 (fun W => Below w.heap.size w W ∧ W.cell? ⟨rb, 0, none⟩ = some (.string s) ∧ W.cell? ⟨rb, 1, none⟩ = some (.int .i64 p))
      (first | assumption | go_keep)
      (first | (go_at_call 79; refine (hT.out _ (by assumption)).mono ?_; rintro e w6 ⟨v, rfl, hv, hb6⟩; have hz := Below.next_ (by assumption : Below w.heap.size w _) hb6; have hR6 := hRd.out _ hz; obtain ⟨c3, c4, c5, f1, f2⟩ := nil_cell hR6; replace hv := hv.resolve_left (fun hx => h1.out hx.1); obtain ⟨ty, u, rfl⟩ := hv.2.iface; replace hv := Lib.hid hv; replace hR6 := Lib.hid hR6))
    go_wp2_with fail
    have hch := Lib.hid (Chg.of_below hz (fun k => k = rb))
    go_ret
    exact ⟨0, rfl, ⟨rfl, p, _, rd_err hR6.out _, err_set hR6.out 2 _ hv.out.2⟩, hch.out.setCell (.inl rfl) _⟩
  · rw [if_neg h1]
    have h1' : (tk s p).2.2 = 0 := Classical.byContradiction h1
    rw [h1'] at hT
    clear h1 h1'
    generalize (tk s p).1 = k at *
    generalize (tk s p).2.1 = b1 at *
    have hwm : IntKind.u64.wrap (m : Int) = m := by rw [IntKind.wrap_u64]; omega
    by_cases hk : m < k
    · rw [if_pos hk]
      replace h := Lib.hid h
      go_enter Tryd.func53, Tryd.ntmps53
      go_wp2_with fail
      go_region_held3 (fun W => Below w.heap.size w W ∧ W.cell? ⟨rb, 0, none⟩ = some (.string s) ∧ W.cell? ⟨rb, 1, none⟩ = some (.int .i64 p))
        (first | assumption | go_keep)
        (first | (go_at_call 79; refine (hT.out _ (by assumption)).mono ?_; rintro e w6 ⟨v, rfl, hv, hb6⟩; have hz := Below.next_ (by assumption : Below w.heap.size w _) hb6; have hR6 := hRd.out _ hz; obtain ⟨c3, c4, c5, f1, f2⟩ := nil_cell hR6; obtain rfl := tk_nil hv; clear hv; replace hR6 := Lib.hid hR6))
      go_wp2_with fail
      have hd6 : Below w.heap.size w w6.drew := hz.drew
      go_region_held3 (fun W => Below w.heap.size w W ∧ W.cell? ⟨rb, 1, none⟩ = some (.int .i64 p))
        (first | assumption | go_keep)
        (first
          | (go_at_call 52; refine (hN.out _ (by assumption)).mono ?_; rintro e w7 ⟨rfl, rfl⟩)
          | (go_at_call 51; refine (hA.out _).mono ?_; rintro e w8 ⟨v', rfl, hv8, hb8⟩; have hz8 := Below.next_ (by assumption : Below w.heap.size w _) hb8; have hR8 := hRd.out _ hz8; obtain ⟨d3, d4, d5, g1, g2⟩ := nil_cell hR8; obtain ⟨ty, u, rfl⟩ := hv8.iface; replace hv8 := Lib.hid hv8; replace hR8 := Lib.hid hR8))
      all_goals
        go_wp2_with fail
        have hch := Lib.hid (Chg.of_below hz8 (fun k => k = rb))
        go_ret
        exact ⟨0, rfl, ⟨rfl, p, _, rd_err hR8.out _, err_set hR8.out 2 _ hv8.out⟩, hch.out.setCell (.inl rfl) _⟩
    · rw [if_neg hk]
      replace h := Lib.hid h
      go_enter Tryd.func53, Tryd.ntmps53
      go_wp2_with fail
      go_region_held3 (fun W => Below w.heap.size w W ∧ W.cell? ⟨rb, 0, none⟩ = some (.string s) ∧ W.cell? ⟨rb, 1, none⟩ = some (.int .i64 p))
        (first | assumption | go_keep)
        (first | (go_at_call 79; refine (hT.out _ (by assumption)).mono ?_; rintro e w6 ⟨v, rfl, hv, hb6⟩; have hz := Below.next_ (by assumption : Below w.heap.size w _) hb6; have hR6 := hRd.out _ hz; obtain ⟨c3, c4, c5, f1, f2⟩ := nil_cell hR6; obtain rfl := tk_nil hv; clear hv; replace hR6 := Lib.hid hR6))
      go_wp2_with fail
      have hch := Lib.hid (Chg.of_below hz (fun k => k = rb))
      go_ret
      exact ⟨k, rfl, ⟨rfl, rd_at hR6.out _⟩, hch.out.setCell (.inl rfl) _⟩
/-! ### kind -/
/-- What a kind is, at a place. -/
def knd (s : ByteArray) (p : Int) (m : Nat) : Except Int (Nat × Int) := if (tk s p).2.2 ≠ 0 then .error (tk s p).2.2 else if (tk s p).1 < 1 ∨ m < (tk s p).1 then .error 5 else .ok ((tk s p).1, (tk s p).2.1)
/-- What kind has left: where it has failed, any number. -/
def KdOut (rb : Nat) (s : ByteArray) (sv : Nat → Addr) (p : Int) (r : Except Int (Nat × Int)) (n : Int) (w' : World) : Prop := match r with
  | .ok x => n = x.1 ∧ Rd w' rb s x.2 .nilIface
  | .error c => n = 0 ∧ ∃ q v, Rd w' rb s q v ∧ ErrIs w' sv v [p] (sIdx c)
set_option maxHeartbeats 2000000 in
theorem kind_any {w : World} {sv : Nat → Addr} (S : Sent w sv) (rb : Nat) (s : ByteArray) (p : Int) (m : Nat) (hs : s.size ≤ 1000000) (hm : m ≤ 1000000) (h : Rd w rb s p .nilIface) :
    Calls Tryd.prog 80 #[.pointer (some ⟨rb, 0, none⟩), .int .i64 m] w fun e w' => ∃ n, e = .returned (.int .i64 n) ∧ KdOut rb s sv p (knd s p m) n w' ∧ Chg (fun k => k = rb) w w' := by
  have hC := Lib.hid (count_any S rb s p m 5 hs hm (by decide) h)
  have hrl := h.lt
  have hN := Lib.hid (fun W (hW : Sent W sv) => new_any hW 5)
  have hA := Lib.hid (fun (W : World) => at_any (w := W) p _ [] (sIdx 5) (ErrIs.leaf (sv := sv) _ (sIdx_lt 5)))
  have hSn := Lib.hid (fun W q (hR : Rd W rb s q .nilIface) (hW : Chg (fun k => k = rb) w W) => sent_chg S h hR hW)
  obtain ⟨_, c1, _, _, _⟩ := nil_cell h
  replace h := Lib.hid h
  clear S
  unfold cnt at hC
  unfold knd
  by_cases h1 : (tk s p).2.2 ≠ 0
  · rw [if_pos h1] at hC ⊢
    generalize (tk s p).2.2 = c1' at *
    replace h1 := Lib.hid h1
    go_enter Tryd.func80, Tryd.ntmps80
    go_wp2_with fail
    refine (hC.out).mono ?_; rintro e w1 ⟨n, rfl, ⟨rfl, q, v, hR, hv⟩, hch⟩
    obtain ⟨ty, u, rfl⟩ := hv.iface
    obtain ⟨_, _, c3, _, _⟩ := nil_cell hR
    replace hR := Lib.hid hR
    replace hv := Lib.hid hv
    replace hch := Lib.hid hch
    go_wp2_with fail
    go_ret
    exact ⟨0, rfl, ⟨rfl, q, _, hR.out, hv.out⟩, hch.out⟩
  · rw [if_neg h1] at hC ⊢
    clear h1
    generalize (tk s p).1 = k at *
    generalize (tk s p).2.1 = b1 at *
    by_cases hk : m < k
    · rw [if_pos hk] at hC
      rw [if_pos (.inr hk)]
      go_enter Tryd.func80, Tryd.ntmps80
      go_wp2_with fail
      refine (hC.out).mono ?_; rintro e w1 ⟨n, rfl, ⟨rfl, q, v, hR, hv⟩, hch⟩
      obtain ⟨ty, u, rfl⟩ := hv.iface
      obtain ⟨_, _, c3, _, _⟩ := nil_cell hR
      replace hR := Lib.hid hR
      replace hv := Lib.hid hv
      replace hch := Lib.hid hch
      go_wp2_with fail
      go_ret
      exact ⟨0, rfl, ⟨rfl, q, _, hR.out, hv.out⟩, hch.out⟩
    · rw [if_neg hk] at hC
      by_cases hk0 : k = 0
      · subst hk0
        rw [if_pos (.inl (by decide))]
        go_enter Tryd.func80, Tryd.ntmps80
        go_wp2_with fail
        refine (hC.out).mono ?_; rintro e w1 ⟨n, rfl, ⟨rfl, hR⟩, hch⟩
        obtain ⟨_, _, c3, _, f3⟩ := nil_cell hR
        have hN1 := Lib.hid (hN.out w1 (hSn.out _ _ hR hch))
        have hrl1 := hR.lt
        replace hR := Lib.hid hR
        replace hch := Lib.hid hch
        go_wp2_with fail
        refine (hN1.out).mono ?_; rintro e w2 ⟨rfl, rfl⟩
        go_wp2_with fail
        refine (hA.out _).mono ?_; rintro e w3 ⟨v', rfl, hv, hb3⟩
        have hR3 : Rd w3 rb s b1 .nilIface := Blk.below hR.out hb3 hrl1
        have hch3 := Lib.hid (hch.out.next_ hb3)
        obtain ⟨ty, u, rfl⟩ := hv.iface
        obtain ⟨_, _, c5, _, f5⟩ := nil_cell hR3
        clear c3 f3 c1
        replace hR3 := Lib.hid hR3
        replace hv := Lib.hid hv
        go_wp2_with fail
        go_ret
        exact ⟨0, rfl, ⟨rfl, b1, _, rd_err hR3.out _, err_set hR3.out 2 _ hv.out⟩, hch3.out.setCell (.inl rfl) _⟩
      · rw [if_neg (by omega)]
        go_enter Tryd.func80, Tryd.ntmps80
        go_wp2_with fail
        refine (hC.out).mono ?_; rintro e w1 ⟨n, rfl, ⟨rfl, hR⟩, hch⟩
        obtain ⟨_, _, c3, _, _⟩ := nil_cell hR
        have hkb : ((k : Int) == 0) = false := beq_eq_false_iff_ne.2 (by omega)
        replace hR := Lib.hid hR
        replace hch := Lib.hid hch
        go_wp2_with fail
        go_ret
        exact ⟨k, rfl, ⟨rfl, hR.out⟩, hch.out⟩
theorem kind_err {w : World} (rb : Nat) (s : ByteArray) (p : Int) (t : TypeId) (u : Value) (m : Int) (h : Rd w rb s p (.iface t u)) :
    Calls Tryd.prog 80 #[.pointer (some ⟨rb, 0, none⟩), .int .i64 m] w fun e w' => e = .returned (.int .i64 0) ∧ w = w' := by
  have hC := Lib.hid (count_err rb s p t u m 5 h)
  obtain ⟨_, c1, c2, _, _⟩ := nil_cell h
  replace h := Lib.hid h
  go_enter Tryd.func80, Tryd.ntmps80
  go_wp2_with fail
  refine (hC.out).mono ?_; rintro e w1 ⟨rfl, rfl⟩
  go_wp2_with fail
  go_ret
  exact ⟨rfl, rfl⟩
/-! ### text -/
theorem text_err {w : World} (rb : Nat) (s : ByteArray) (p : Int) (t : TypeId) (u : Value) (m : Int) (h : Rd w rb s p (.iface t u)) :
    Calls Tryd.prog 81 #[.pointer (some ⟨rb, 0, none⟩), .int .i64 m] w fun e w' => e = .returned (.string ⟨#[]⟩) ∧ w = w' := by
  obtain ⟨_, _, c2, _, _⟩ := nil_cell h
  go_enter Tryd.func81, Tryd.ntmps81
  go_wp2_with fail
  go_ret
  exact ⟨rfl, rfl⟩
/-- What text has left. -/
def TxOut (rb : Nat) (s : ByteArray) (sv : Nat → Addr) (p : Int) (r : ByteArray × Int × Int) (x : ByteArray) (w' : World) : Prop :=
  (r.2.2 = 0 ∧ x = r.1 ∧ Rd w' rb s r.2.1 .nilIface) ∨ (r.2.2 ≠ 0 ∧ ∃ q v, Rd w' rb s q v ∧ ErrIs w' sv v [p] (sIdx r.2.2))
set_option maxRecDepth 100000 in
set_option maxHeartbeats 2000000 in
theorem rdText_any {w : World} {sv : Nat → Addr} (S : Sent w sv) (rb : Nat) (s : ByteArray) (p m : Int) (hs : s.size ≤ 1000000) (hm : m ≤ 1000000) (h : Rd w rb s p .nilIface) :
    Calls Tryd.prog 81 #[.pointer (some ⟨rb, 0, none⟩), .int .i64 m] w fun e w' => ∃ x, e = .returned (.string x) ∧ TxOut rb s sv p (tkt s p m) x w' ∧ Chg (fun k => k = rb) w w' := by
  have hT := Lib.hid (fun W (hW : Below w.heap.size w W) => takeText_any (S.below hW) s p m hs (by omega))
  have hbl := h.lt
  have hRd := Lib.hid (fun W (hW : Below w.heap.size w W) => (Blk.below h hW hbl : Rd W rb s p .nilIface))
  obtain ⟨c0, c1, c2, _, _⟩ := nil_cell h
  have hd0 : Below w.heap.size w w.drew := (Below.refl _ _).drew
  clear S
  replace h := Lib.hid h
  unfold TxOut
  generalize (tkt s p m).1 = x at *
  generalize (tkt s p m).2.1 = b1 at *
  generalize (tkt s p m).2.2 = c1' at *
  by_cases h1 : c1' ≠ 0
  · replace h1 := Lib.hid h1
    go_enter Tryd.func81, Tryd.ntmps81
    go_wp2_with fail
    go_region_held3 (fun W => Below w.heap.size w W ∧ W.cell? ⟨rb, 0, none⟩ = some (.string s) ∧ W.cell? ⟨rb, 1, none⟩ = some (.int .i64 p))
      (first | assumption | go_keep)
      (first | (go_at_call 100; refine (hT.out _ (by assumption)).mono ?_; rintro e w6 ⟨v, rfl, hv, hb6⟩; have hz := Below.next_ (by assumption : Below w.heap.size w _) hb6; have hR6 := hRd.out _ hz; obtain ⟨c3, c4, c5, f1, f2⟩ := nil_cell hR6; replace hv := hv.resolve_left (fun hx => h1.out hx.1); obtain ⟨ty, u, rfl⟩ := hv.2.iface; replace hv := Lib.hid hv; replace hR6 := Lib.hid hR6))
    go_wp2_with fail
    have hch := Lib.hid (Chg.of_below hz (fun k => k = rb))
    go_ret
    exact ⟨_, rfl, .inr ⟨h1.out, p, _, rd_err hR6.out _, err_set hR6.out 2 _ hv.out.2⟩, hch.out.setCell (.inl rfl) _⟩
  · obtain rfl : c1' = 0 := Classical.byContradiction h1
    clear h1
    go_enter Tryd.func81, Tryd.ntmps81
    go_wp2_with fail
    go_region_held3 (fun W => Below w.heap.size w W ∧ W.cell? ⟨rb, 0, none⟩ = some (.string s) ∧ W.cell? ⟨rb, 1, none⟩ = some (.int .i64 p))
      (first | assumption | go_keep)
      (first | (go_at_call 100; refine (hT.out _ (by assumption)).mono ?_; rintro e w6 ⟨v, rfl, hv, hb6⟩; have hz := Below.next_ (by assumption : Below w.heap.size w _) hb6; have hR6 := hRd.out _ hz; obtain ⟨c3, c4, c5, f1, f2⟩ := nil_cell hR6; obtain rfl := tk_nil hv; clear hv; replace hR6 := Lib.hid hR6))
    go_wp2_with fail
    have hch := Lib.hid (Chg.of_below hz (fun k => k = rb))
    go_ret
    exact ⟨x, rfl, .inl ⟨by simp, rfl, rd_at hR6.out _⟩, hch.out.setCell (.inl rfl) _⟩
end Go.Proofs.YtpmnppjiipbonaaDoor
