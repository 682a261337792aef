import Derived.Test.YtpkkjoiglemlgaaGreatDoorOpR
import Derived.Deep.RegionWith
import Derived.Deep.RegionHeld3
import Derived.Deep.RegionLaw
/-
  opcode's reader: count, kind, text. No condition.
-/
namespace Go.Proofs.YtpkkjoiglemlgaaGreatDoor
set_option linter.unusedVariables false
open Go.RowKit Go.Extern.Stop Go.Stop Go.Extern Go.ChangeShapes

/-- A reader: its text, its place, its error. -/
def Rd (w : World) (rb : Nat) (s : ByteArray) (p : Int) (v : Value) : Prop := Blk w rb 163 #[.string s, .int .i64 p, v]
theorem nil_cell {w : World} {rb : Nat} {s : ByteArray} {p : Int} {v : Value} (h : Rd w rb s p v) : w.cell? ⟨rb, 0, none⟩ = some (.string s) ∧ w.cell? ⟨rb, 1, none⟩ = some (.int .i64 p) ∧ w.cell? ⟨rb, 2, none⟩ = some v ∧ w.frozen? ⟨rb, 1, none⟩ = false ∧ w.frozen? ⟨rb, 2, none⟩ = false :=
  ⟨Blk.cell h 0, Blk.cell h 1, Blk.cell h 2, Blk.frozen h 1, Blk.frozen h 2⟩
theorem rd_err {w : World} {rb : Nat} {s : ByteArray} {p : Int} {v : Value} (h : Rd w rb s p v) (u : Value) : Rd (w.setCell ⟨rb, 2, none⟩ u) rb s p u := Blk.eq_cs (Blk.set_ h 2 u) rfl
theorem rd_at {w : World} {rb : Nat} {s : ByteArray} {p : Int} {v : Value} (h : Rd w rb s p v) (q : Int) : Rd (w.setCell ⟨rb, 1, none⟩ (.int .i64 q)) rb s q v := Blk.eq_cs (Blk.set_ h 1 _) rfl
/-- An error is below its chain: it stays where only what lies off its blocks turns. -/
theorem err_set {w : World} {sv : Nat → Addr} {rb : Nat} {s : ByteArray} {p : Int} {u : Value} (hR : Rd w rb s p u) (i : Nat) (x : Value) : ∀ {ps : List Int} {v : Value} {j : Nat}, ErrIs w sv v ps j → ErrIs (w.setCell ⟨rb, i, none⟩ x) sv v ps j
  | [], _, _, h => h
  | _ :: _, _, _, ⟨b, u', h, hB, k⟩ => ⟨b, u', h, Blk.far hB (show b ≠ rb from Blk.ne_ hB (show Blk w rb 163 #[.string s, .int .i64 p, u] from hR) (by decide)) _, err_set hR i x k⟩
theorem tk_nil {w : World} {sv : Nat → Addr} {v : Value} {p : Int} (h : TkErr w sv v p 0) : v = .nilIface := by
  rcases h with ⟨_, h⟩ | ⟨h, _⟩
  · exact h
  · exact absurd rfl h
/-- The reader has failed: what it says of the rest. -/
theorem count_err {w : World} (rb : Nat) (s : ByteArray) (p : Int) (t : TypeId) (u : Value) (m c : Int) (h : Rd w rb s p (.iface t u)) :
    Calls Tryz.prog 106 #[.pointer (some ⟨rb, 0, none⟩), .int .i64 m, .int .i64 c] w fun e w' => e = .returned (.int .i64 0) ∧ w = w' := by
  obtain ⟨_, _, c2, _, _⟩ := nil_cell h
  go_enter Tryz.func106, Tryz.ntmps106
  go_wp2_with fail
  go_ret
  exact ⟨rfl, rfl⟩
/-- The sentinels stay where a reader's block turns. -/
theorem sent_chg {w w' : World} {sv : Nat → Addr} {rb : Nat} {s s' : ByteArray} {p p' : Int} {v v' : Value} (S : Sent w sv) (h : Rd w rb s p v) (h' : Rd w' rb s' p' v') (hc : Chg (fun k => k = rb) w w') : Sent w' sv := by
  refine ⟨fun i hi => ?_, S.inj, fun i hi => ?_⟩
  · have hv := S.var i hi
    refine (hc.cell (cell_lt hv) (fun e => ?_)).trans hv
    have h0 := Blk.cell h 0
    simp only at e
    rw [e, h0] at hv
    cases hv
  · obtain ⟨cs, t, hr⟩ := S.row i hi
    by_cases e : (sv i).block = rb
    · rw [e]; exact ⟨_, _, h'⟩
    · exact ⟨cs, t, (hc.block _ (Array.getElem?_eq_some_iff.1 hr).1 e).trans hr⟩
/-- What a count is, at a place. -/
def cnt (s : ByteArray) (p : Int) (m : Nat) (c : Int) : Except Int (Nat × Int) := if (tk s p).2.2 ≠ 0 then .error (tk s p).2.2 else if m < (tk s p).1 then .error c else .ok ((tk s p).1, (tk s p).2.1)
/-- What a reader's call has left: its answer, or its error at a place. -/
def RdOut (rb : Nat) (s : ByteArray) (sv : Nat → Addr) (p : Int) (r : Except Int (Nat × Int)) (n : Int) (w' : World) : Prop := match r with
  | .ok x => n = x.1 ∧ Rd w' rb s x.2 .nilIface
  | .error c => n = 0 ∧ ∃ q v, Rd w' rb s q v ∧ ErrIs w' sv v [p] (sIdx c)
set_option maxRecDepth 100000 in
set_option maxHeartbeats 2000000 in
theorem count_any {w : World} {sv : Nat → Addr} (S : Sent w sv) (rb : Nat) (s : ByteArray) (p : Int) (m : Nat) (c : Int) (hs : s.size ≤ 1000000) (hm : m ≤ 1000000) (hc : c ≠ 0) (h : Rd w rb s p .nilIface) :
    Calls Tryz.prog 106 #[.pointer (some ⟨rb, 0, none⟩), .int .i64 m, .int .i64 c] w fun e w' => ∃ n, e = .returned (.int .i64 n) ∧ RdOut rb s sv p (cnt s p m c) n w' ∧ Chg (fun k => k = rb) w w' := by
  have hT := Lib.hid (fun W (hW : Below w.heap.size w W) => take_any (S.below hW) s p hs)
  have hN := Lib.hid (fun W (hW : Below w.heap.size w W) => new_any (S.below hW) c)
  have hnv : newV sv c = .iface 242 (.pointer (some (sv (sIdx c)))) := by unfold newV; rw [if_neg hc]
  rw [hnv] at hN
  have hA := Lib.hid (fun (W : World) => at_any (w := W) p _ [] (sIdx c) (ErrIs.leaf (sv := sv) _ (sIdx_lt c)))
  have hbl := h.lt
  have hRd := Lib.hid (fun W (hW : Below w.heap.size w W) => (Blk.below h hW hbl : Rd W rb s p .nilIface))
  obtain ⟨c0, c1, c2, _, _⟩ := nil_cell h
  have hlt := tk_lt s p
  have hd0 : Below w.heap.size w w.drew := (Below.refl _ _).drew
  clear S hnv
  unfold cnt
  by_cases h1 : (tk s p).2.2 ≠ 0
  · rw [if_pos h1]
    generalize (tk s p).1 = k at *
    generalize (tk s p).2.1 = b1 at *
    generalize (tk s p).2.2 = c1' at *
    replace h1 := Lib.hid h1
    replace h := Lib.hid h
    go_enter Tryz.func106, Tryz.ntmps106
    go_wp2_with fail
    go_region_held3 (fun W => Below w.heap.size w W ∧ W.cell? ⟨rb, 0, none⟩ = some (.string s) ∧ W.cell? ⟨rb, 1, none⟩ = some (.int .i64 p))
      (first | assumption | go_keep)
      (first | (go_at_call 45; refine (hT.out _ (by assumption)).mono ?_; rintro e w6 ⟨v, rfl, hv, hb6⟩; have hz := Below.next_ (by assumption : Below w.heap.size w _) hb6; have hR6 := hRd.out _ hz; obtain ⟨c3, c4, c5, f1, f2⟩ := nil_cell hR6; replace hv := hv.resolve_left (fun hx => h1.out hx.1); obtain ⟨ty, u, rfl⟩ := hv.2.iface; replace hv := Lib.hid hv; replace hR6 := Lib.hid hR6))
    go_wp2_with fail
    have hch := Lib.hid (Chg.of_below hz (fun k => k = rb))
    go_ret
    exact ⟨0, rfl, ⟨rfl, p, _, rd_err hR6.out _, err_set hR6.out 2 _ hv.out.2⟩, hch.out.setCell (.inl rfl) _⟩
  · rw [if_neg h1]
    have h1' : (tk s p).2.2 = 0 := Classical.byContradiction h1
    rw [h1'] at hT
    clear h1 h1'
    generalize (tk s p).1 = k at *
    generalize (tk s p).2.1 = b1 at *
    have hwm : IntKind.u64.wrap (m : Int) = m := by rw [IntKind.wrap_u64]; omega
    by_cases hk : m < k
    · rw [if_pos hk]
      replace h := Lib.hid h
      go_enter Tryz.func106, Tryz.ntmps106
      go_wp2_with fail
      go_region_held3 (fun W => Below w.heap.size w W ∧ W.cell? ⟨rb, 0, none⟩ = some (.string s) ∧ W.cell? ⟨rb, 1, none⟩ = some (.int .i64 p))
        (first | assumption | go_keep)
        (first | (go_at_call 45; refine (hT.out _ (by assumption)).mono ?_; rintro e w6 ⟨v, rfl, hv, hb6⟩; have hz := Below.next_ (by assumption : Below w.heap.size w _) hb6; have hR6 := hRd.out _ hz; obtain ⟨c3, c4, c5, f1, f2⟩ := nil_cell hR6; obtain rfl := tk_nil hv; clear hv; replace hR6 := Lib.hid hR6))
      go_wp2_with fail
      have hd6 : Below w.heap.size w w6.drew := hz.drew
      go_region_held3 (fun W => Below w.heap.size w W ∧ W.cell? ⟨rb, 1, none⟩ = some (.int .i64 p))
        (first | assumption | go_keep)
        (first
          | (go_at_call 40; refine (hN.out _ (by assumption)).mono ?_; rintro e w7 ⟨rfl, rfl⟩)
          | (go_at_call 39; refine (hA.out _).mono ?_; rintro e w8 ⟨v', rfl, hv8, hb8⟩; have hz8 := Below.next_ (by assumption : Below w.heap.size w _) hb8; have hR8 := hRd.out _ hz8; obtain ⟨d3, d4, d5, g1, g2⟩ := nil_cell hR8; obtain ⟨ty, u, rfl⟩ := hv8.iface; replace hv8 := Lib.hid hv8; replace hR8 := Lib.hid hR8))
      all_goals
        go_wp2_with fail
        have hch := Lib.hid (Chg.of_below hz8 (fun k => k = rb))
        go_ret
        exact ⟨0, rfl, ⟨rfl, p, _, rd_err hR8.out _, err_set hR8.out 2 _ hv8.out⟩, hch.out.setCell (.inl rfl) _⟩
    · rw [if_neg hk]
      replace h := Lib.hid h
      go_enter Tryz.func106, Tryz.ntmps106
      go_wp2_with fail
      go_region_held3 (fun W => Below w.heap.size w W ∧ W.cell? ⟨rb, 0, none⟩ = some (.string s) ∧ W.cell? ⟨rb, 1, none⟩ = some (.int .i64 p))
        (first | assumption | go_keep)
        (first | (go_at_call 45; refine (hT.out _ (by assumption)).mono ?_; rintro e w6 ⟨v, rfl, hv, hb6⟩; have hz := Below.next_ (by assumption : Below w.heap.size w _) hb6; have hR6 := hRd.out _ hz; obtain ⟨c3, c4, c5, f1, f2⟩ := nil_cell hR6; obtain rfl := tk_nil hv; clear hv; replace hR6 := Lib.hid hR6))
      go_wp2_with fail
      have hch := Lib.hid (Chg.of_below hz (fun k => k = rb))
      go_ret
      exact ⟨k, rfl, ⟨rfl, rd_at hR6.out _⟩, hch.out.setCell (.inl rfl) _⟩
/-! ### kind -/
/-- What a kind is, at a place. -/
def knd (s : ByteArray) (p : Int) (m : Nat) : Except Int (Nat × Int) := if (tk s p).2.2 ≠ 0 then .error (tk s p).2.2 else if (tk s p).1 < 1 ∨ m < (tk s p).1 then .error 5 else .ok ((tk s p).1, (tk s p).2.1)
/-- What kind has left: where it has failed, any number. -/
def KdOut (rb : Nat) (s : ByteArray) (sv : Nat → Addr) (p : Int) (r : Except Int (Nat × Int)) (n : Int) (w' : World) : Prop := match r with
  | .ok x => n = x.1 ∧ Rd w' rb s x.2 .nilIface
  | .error c => n = 0 ∧ ∃ q v, Rd w' rb s q v ∧ ErrIs w' sv v [p] (sIdx c)
set_option maxHeartbeats 2000000 in
theorem kind_any {w : World} {sv : Nat → Addr} (S : Sent w sv) (rb : Nat) (s : ByteArray) (p : Int) (m : Nat) (hs : s.size ≤ 1000000) (hm : m ≤ 1000000) (h : Rd w rb s p .nilIface) :
    Calls Tryz.prog 137 #[.pointer (some ⟨rb, 0, none⟩), .int .i64 m] w fun e w' => ∃ n, e = .returned (.int .i64 n) ∧ KdOut rb s sv p (knd s p m) n w' ∧ Chg (fun k => k = rb) w w' := by
  have hC := Lib.hid (count_any S rb s p m 5 hs hm (by decide) h)
  have hrl := h.lt
  have hN := Lib.hid (fun W (hW : Sent W sv) => new_any hW 5)
  have hA := Lib.hid (fun (W : World) => at_any (w := W) p _ [] (sIdx 5) (ErrIs.leaf (sv := sv) _ (sIdx_lt 5)))
  have hSn := Lib.hid (fun W q (hR : Rd W rb s q .nilIface) (hW : Chg (fun k => k = rb) w W) => sent_chg S h hR hW)
  obtain ⟨_, c1, _, _, _⟩ := nil_cell h
  replace h := Lib.hid h
  clear S
  unfold cnt at hC
  unfold knd
  by_cases h1 : (tk s p).2.2 ≠ 0
  · rw [if_pos h1] at hC ⊢
    generalize (tk s p).2.2 = c1' at *
    replace h1 := Lib.hid h1
    go_enter Tryz.func137, Tryz.ntmps137
    go_wp2_with fail
    refine (hC.out).mono ?_; rintro e w1 ⟨n, rfl, ⟨rfl, q, v, hR, hv⟩, hch⟩
    obtain ⟨ty, u, rfl⟩ := hv.iface
    obtain ⟨_, _, c3, _, _⟩ := nil_cell hR
    replace hR := Lib.hid hR
    replace hv := Lib.hid hv
    replace hch := Lib.hid hch
    go_wp2_with fail
    go_ret
    exact ⟨0, rfl, ⟨rfl, q, _, hR.out, hv.out⟩, hch.out⟩
  · rw [if_neg h1] at hC ⊢
    clear h1
    generalize (tk s p).1 = k at *
    generalize (tk s p).2.1 = b1 at *
    by_cases hk : m < k
    · rw [if_pos hk] at hC
      rw [if_pos (.inr hk)]
      go_enter Tryz.func137, Tryz.ntmps137
      go_wp2_with fail
      refine (hC.out).mono ?_; rintro e w1 ⟨n, rfl, ⟨rfl, q, v, hR, hv⟩, hch⟩
      obtain ⟨ty, u, rfl⟩ := hv.iface
      obtain ⟨_, _, c3, _, _⟩ := nil_cell hR
      replace hR := Lib.hid hR
      replace hv := Lib.hid hv
      replace hch := Lib.hid hch
      go_wp2_with fail
      go_ret
      exact ⟨0, rfl, ⟨rfl, q, _, hR.out, hv.out⟩, hch.out⟩
    · rw [if_neg hk] at hC
      by_cases hk0 : k = 0
      · subst hk0
        rw [if_pos (.inl (by decide))]
        go_enter Tryz.func137, Tryz.ntmps137
        go_wp2_with fail
        refine (hC.out).mono ?_; rintro e w1 ⟨n, rfl, ⟨rfl, hR⟩, hch⟩
        obtain ⟨_, _, c3, _, f3⟩ := nil_cell hR
        have hN1 := Lib.hid (hN.out w1 (hSn.out _ _ hR hch))
        have hrl1 := hR.lt
        replace hR := Lib.hid hR
        replace hch := Lib.hid hch
        go_wp2_with fail
        refine (hN1.out).mono ?_; rintro e w2 ⟨rfl, rfl⟩
        go_wp2_with fail
        refine (hA.out _).mono ?_; rintro e w3 ⟨v', rfl, hv, hb3⟩
        have hR3 : Rd w3 rb s b1 .nilIface := Blk.below hR.out hb3 hrl1
        have hch3 := Lib.hid (hch.out.next_ hb3)
        obtain ⟨ty, u, rfl⟩ := hv.iface
        obtain ⟨_, _, c5, _, f5⟩ := nil_cell hR3
        clear c3 f3 c1
        replace hR3 := Lib.hid hR3
        replace hv := Lib.hid hv
        go_wp2_with fail
        go_ret
        exact ⟨0, rfl, ⟨rfl, b1, _, rd_err hR3.out _, err_set hR3.out 2 _ hv.out⟩, hch3.out.setCell (.inl rfl) _⟩
      · rw [if_neg (by omega)]
        go_enter Tryz.func137, Tryz.ntmps137
        go_wp2_with fail
        refine (hC.out).mono ?_; rintro e w1 ⟨n, rfl, ⟨rfl, hR⟩, hch⟩
        obtain ⟨_, _, c3, _, _⟩ := nil_cell hR
        have hkb : ((k : Int) == 0) = false := beq_eq_false_iff_ne.2 (by omega)
        replace hR := Lib.hid hR
        replace hch := Lib.hid hch
        go_wp2_with fail
        go_ret
        exact ⟨k, rfl, ⟨rfl, hR.out⟩, hch.out⟩
theorem kind_err {w : World} (rb : Nat) (s : ByteArray) (p : Int) (t : TypeId) (u : Value) (m : Int) (h : Rd w rb s p (.iface t u)) :
    Calls Tryz.prog 137 #[.pointer (some ⟨rb, 0, none⟩), .int .i64 m] w fun e w' => e = .returned (.int .i64 0) ∧ w = w' := by
  have hC := Lib.hid (count_err rb s p t u m 5 h)
  obtain ⟨_, c1, c2, _, _⟩ := nil_cell h
  replace h := Lib.hid h
  go_enter Tryz.func137, Tryz.ntmps137
  go_wp2_with fail
  refine (hC.out).mono ?_; rintro e w1 ⟨rfl, rfl⟩
  go_wp2_with fail
  go_ret
  exact ⟨rfl, rfl⟩
/-! ### text -/
theorem text_err {w : World} (rb : Nat) (s : ByteArray) (p : Int) (t : TypeId) (u : Value) (m : Int) (h : Rd w rb s p (.iface t u)) :
    Calls Tryz.prog 138 #[.pointer (some ⟨rb, 0, none⟩), .int .i64 m] w fun e w' => e = .returned (.string ⟨#[]⟩) ∧ w = w' := by
  obtain ⟨_, _, c2, _, _⟩ := nil_cell h
  go_enter Tryz.func138, Tryz.ntmps138
  go_wp2_with fail
  go_ret
  exact ⟨rfl, rfl⟩
/-- What text has left. -/
def TxOut (rb : Nat) (s : ByteArray) (sv : Nat → Addr) (p : Int) (r : ByteArray × Int × Int) (x : ByteArray) (w' : World) : Prop :=
  (r.2.2 = 0 ∧ x = r.1 ∧ Rd w' rb s r.2.1 .nilIface) ∨ (r.2.2 ≠ 0 ∧ ∃ q v, Rd w' rb s q v ∧ ErrIs w' sv v [p] (sIdx r.2.2))
set_option maxRecDepth 100000 in
set_option maxHeartbeats 2000000 in
theorem rdText_any {w : World} {sv : Nat → Addr} (S : Sent w sv) (rb : Nat) (s : ByteArray) (p m : Int) (hs : s.size ≤ 1000000) (hm : m ≤ 1000000) (h : Rd w rb s p .nilIface) :
    Calls Tryz.prog 138 #[.pointer (some ⟨rb, 0, none⟩), .int .i64 m] w fun e w' => ∃ x, e = .returned (.string x) ∧ TxOut rb s sv p (tkt s p m) x w' ∧ Chg (fun k => k = rb) w w' := by
  have hT := Lib.hid (fun W (hW : Below w.heap.size w W) => takeText_any (S.below hW) s p m hs (by omega))
  have hbl := h.lt
  have hRd := Lib.hid (fun W (hW : Below w.heap.size w W) => (Blk.below h hW hbl : Rd W rb s p .nilIface))
  obtain ⟨c0, c1, c2, _, _⟩ := nil_cell h
  have hd0 : Below w.heap.size w w.drew := (Below.refl _ _).drew
  clear S
  replace h := Lib.hid h
  unfold TxOut
  generalize (tkt s p m).1 = x at *
  generalize (tkt s p m).2.1 = b1 at *
  generalize (tkt s p m).2.2 = c1' at *
  by_cases h1 : c1' ≠ 0
  · replace h1 := Lib.hid h1
    go_enter Tryz.func138, Tryz.ntmps138
    go_wp2_with fail
    go_region_held3 (fun W => Below w.heap.size w W ∧ W.cell? ⟨rb, 0, none⟩ = some (.string s) ∧ W.cell? ⟨rb, 1, none⟩ = some (.int .i64 p))
      (first | assumption | go_keep)
      (first | (go_at_call 156; refine (hT.out _ (by assumption)).mono ?_; rintro e w6 ⟨v, rfl, hv, hb6⟩; have hz := Below.next_ (by assumption : Below w.heap.size w _) hb6; have hR6 := hRd.out _ hz; obtain ⟨c3, c4, c5, f1, f2⟩ := nil_cell hR6; replace hv := hv.resolve_left (fun hx => h1.out hx.1); obtain ⟨ty, u, rfl⟩ := hv.2.iface; replace hv := Lib.hid hv; replace hR6 := Lib.hid hR6))
    go_wp2_with fail
    have hch := Lib.hid (Chg.of_below hz (fun k => k = rb))
    go_ret
    exact ⟨_, rfl, .inr ⟨h1.out, p, _, rd_err hR6.out _, err_set hR6.out 2 _ hv.out.2⟩, hch.out.setCell (.inl rfl) _⟩
  · obtain rfl : c1' = 0 := Classical.byContradiction h1
    clear h1
    go_enter Tryz.func138, Tryz.ntmps138
    go_wp2_with fail
    go_region_held3 (fun W => Below w.heap.size w W ∧ W.cell? ⟨rb, 0, none⟩ = some (.string s) ∧ W.cell? ⟨rb, 1, none⟩ = some (.int .i64 p))
      (first | assumption | go_keep)
      (first | (go_at_call 156; refine (hT.out _ (by assumption)).mono ?_; rintro e w6 ⟨v, rfl, hv, hb6⟩; have hz := Below.next_ (by assumption : Below w.heap.size w _) hb6; have hR6 := hRd.out _ hz; obtain ⟨c3, c4, c5, f1, f2⟩ := nil_cell hR6; obtain rfl := tk_nil hv; clear hv; replace hR6 := Lib.hid hR6))
    go_wp2_with fail
    have hch := Lib.hid (Chg.of_below hz (fun k => k = rb))
    go_ret
    exact ⟨x, rfl, .inl ⟨by simp, rfl, rd_at hR6.out _⟩, hch.out.setCell (.inl rfl) _⟩
end Go.Proofs.YtpkkjoiglemlgaaGreatDoor

/-
  opcode's reader, going on or failed: kind, text and guard over it. No condition.
-/
namespace Go.Proofs.YtpkkjoiglemlgaaGreatDoor
set_option linter.unusedVariables false
open Go.RowKit Go.Extern.Stop Go.Stop Go.Extern Go.ChangeShapes

/-- A reader that goes on at a place, or has failed with a code at a place. -/
def RS (w : World) (rb : Nat) (s : ByteArray) (sv : Nat → Addr) : Except (Int × Int) Int → Prop
  | .ok p => Rd w rb s p .nilIface
  | .error e => ∃ q v, Rd w rb s q v ∧ ErrIs w sv v [e.2] (sIdx e.1)
theorem err_stays {w w' : World} {sv : Nat → Addr} (hk : ∀ b cs, Blk w b 105 cs → Blk w' b 105 cs) : ∀ {ps : List Int} {v : Value} {i : Nat}, ErrIs w sv v ps i → ErrIs w' sv v ps i
  | [], _, _, h => h
  | _ :: _, _, _, ⟨b, u', h, hB, k⟩ => ⟨b, u', h, hk _ _ hB, err_stays hk k⟩
theorem RS.keep {w w' : World} {rb : Nat} {s : ByteArray} {sv : Nat → Addr} {r : Except (Int × Int) Int} (h : RS w rb s sv r) (hk : ∀ b t cs, t = 163 ∨ t = 105 → Blk w b t cs → Blk w' b t cs) : RS w' rb s sv r := by
  cases r with
  | ok p => exact hk _ _ _ (.inl rfl) h
  | error e =>
    obtain ⟨q, v, h1, h2⟩ := h
    exact ⟨q, v, hk _ _ _ (.inl rfl) h1, err_stays (fun b cs hb => hk b _ cs (.inr rfl) hb) h2⟩
theorem RS.rd {w : World} {rb : Nat} {s : ByteArray} {sv : Nat → Addr} {r : Except (Int × Int) Int} (h : RS w rb s sv r) : ∃ q v, Rd w rb s q v := by
  cases r with
  | ok p => exact ⟨_, _, h⟩
  | error e => obtain ⟨q, v, h1, _⟩ := h; exact ⟨q, v, h1⟩
theorem RS.below {w w' : World} {rb : Nat} {s : ByteArray} {sv : Nat → Addr} {r : Except (Int × Int) Int} (h : RS w rb s sv r) (hb : Below w.heap.size w w') : RS w' rb s sv r := h.keep fun b _ _ _ hB => hB.below hb hB.lt
/-- Behind a text. -/
def thenT (s : ByteArray) (m : Int) : Except (Int × Int) Int → Except (Int × Int) Int
  | .error e => .error e
  | .ok p => if (tkt s p m).2.2 ≠ 0 then .error ((tkt s p m).2.2, p) else .ok (tkt s p m).2.1
def thenI (s : ByteArray) : Except (Int × Int) Int → Except (Int × Int) Int
  | .error e => .error e
  | .ok p => if (tki s p).2.2 ≠ 0 then .error ((tki s p).2.2, p) else .ok (tki s p).2.1
def ofKind (s : ByteArray) (p : Int) (m : Nat) : Except (Int × Int) Int := match knd s p m with
  | .error c => .error (c, p)
  | .ok x => .ok x.2
theorem text_rs {w : World} {sv : Nat → Addr} (S : Sent w sv) (rb : Nat) (s : ByteArray) (m : Int) (r : Except (Int × Int) Int) (hs : s.size ≤ 1000000) (hm : m ≤ 1000000) (h : RS w rb s sv r) :
    Calls Tryz.prog 138 #[.pointer (some ⟨rb, 0, none⟩), .int .i64 m] w fun e w' => ∃ x, e = .returned (.string x) ∧ RS w' rb s sv (thenT s m r) ∧ (∀ p, r = .ok p → (tkt s p m).2.2 = 0 → x = (tkt s p m).1) ∧ Chg (fun k => k = rb) w w' := by
  cases r with
  | ok p =>
    refine (rdText_any S rb s p m hs hm h).mono ?_
    rintro e w' ⟨x, rfl, ho, hc⟩
    refine ⟨x, rfl, ?_, fun p' hp h0 => ?_, hc⟩
    · unfold thenT
      rcases ho with ⟨h0, _, hR⟩ | ⟨h0, q, v, hR, hv⟩
      · simp only
        rw [if_neg (by simpa using h0)]
        exact hR
      · simp only
        rw [if_pos h0]
        exact ⟨q, v, hR, hv⟩
    · injection hp with hp
      subst hp
      rcases ho with ⟨_, hx, _⟩ | ⟨h1, _⟩
      · exact hx
      · exact absurd h0 h1
  | error e =>
    obtain ⟨q, v, h1, h2⟩ := h
    obtain ⟨t, u, rfl⟩ := h2.iface
    refine (text_err rb s q t u m h1).mono ?_
    rintro e' w' ⟨rfl, rfl⟩
    exact ⟨_, rfl, ⟨q, _, h1, h2⟩, fun p hp => (by cases hp), Chg.refl _ _⟩
theorem kind_rs {w : World} {sv : Nat → Addr} (S : Sent w sv) (rb : Nat) (s : ByteArray) (p : Int) (m : Nat) (hs : s.size ≤ 1000000) (hm : m ≤ 1000000) (h : Rd w rb s p .nilIface) :
    Calls Tryz.prog 137 #[.pointer (some ⟨rb, 0, none⟩), .int .i64 m] w fun e w' => ∃ n : Nat, e = .returned (.int .i64 n) ∧ n ≤ m ∧ RS w' rb s sv (ofKind s p m) ∧ (∀ x, knd s p m = .ok x → n = x.1) ∧ (∀ c, knd s p m = .error c → n = 0) ∧ Chg (fun k => k = rb) w w' := by
  refine (kind_any S rb s p m hs hm h).mono ?_
  rintro e w' ⟨n, rfl, ho, hc⟩
  unfold ofKind
  have hle : ∀ x, knd s p m = .ok x → x.1 ≤ m := by
    intro x hx
    unfold knd at hx
    split at hx
    · cases hx
    · split at hx
      · cases hx
      · injection hx with hx
        subst hx
        simp only
        omega
  cases hk : knd s p m with
  | ok x =>
    rw [hk] at ho
    obtain ⟨h1, h2⟩ := ho
    exact ⟨x.1, by rw [h1], hle x hk, h2, fun y hy => by injection hy with hy; rw [hy], fun c hc => (by cases hc), hc⟩
  | error c =>
    rw [hk] at ho
    obtain ⟨h1, q, v, h2, h3⟩ := ho
    exact ⟨0, by rw [h1]; rfl, Nat.zero_le _, ⟨q, v, h2, h3⟩, fun y hy => (by cases hy), fun _ _ => rfl, hc⟩
theorem infoGd : (Tryz.prog.info? 94).map (fun i => (i.zero, i.size, i.bytes)) = some (some (.agg #[.int .i64 0, .string ⟨#[]⟩, .string ⟨#[]⟩]), 3, 40) := by kernel_rfl
theorem infoSt : (Tryz.prog.info? 96).map (fun i => (i.zero, i.size, i.bytes)) = some (some (.agg #[.int .i64 0, .string ⟨#[]⟩, .string ⟨#[]⟩, .string ⟨#[]⟩, .int .i64 0]), 5, 64) := by kernel_rfl
theorem readsN (W : World) (t : TypeId) (cs : Array Value) (size : Nat) (h : cs.size = 1 * size) : Reads (W.alloc (.cells cs t)) (W.heap.size + 1) size (some ⟨W.heap.size, 0, none⟩) 1 cs.toList := by
  refine ⟨by simpa using h, fun _ => ⟨_, rfl, Nat.lt_succ_self _, fun j u hu => ?_⟩⟩
  have e : (⟨W.heap.size, 0, none⟩ : Addr).add j = ⟨W.heap.size, j, none⟩ := by unfold Addr.add; split <;> simp_all
  rw [e, (Blk.new W t cs).cell j]
  simpa using hu
theorem ownSucc {w : World} {base : Nat} {e : TypeId} {size n : Nat} {v : Value} {xs : List Value} (h : w.ownsRow base e size v (n + 1) xs) : ∃ g c, v = .slice (some ⟨g, 0, none⟩) (n + 1) c := by
  rcases h.2 with ⟨_, h0⟩ | ⟨g, cap, cur, rfl, _⟩
  · omega
  · exact ⟨g, cap, rfl⟩
theorem ownKeep {w w' : World} {base : Nat} {e : TypeId} {size : Nat} {v : Value} {n : Nat} {xs : List Value} (h : w.ownsRow base e size v n xs) (hk : ∀ g, v.ownBlock = some g → w'.heap[g]? = w.heap[g]?) : w'.ownsRow base e size v n xs := by
  refine ⟨h.1, h.2.imp id ?_⟩
  rintro ⟨g, cap, cur, rfl, e2, e3, e4⟩
  exact ⟨g, cap, cur, rfl, e2, (hk g rfl).trans e3, e4⟩
/-- What a part's reader has left: the part behind the row, its op's block else as it was. -/
structure PtOut (w w' : World) (rb ob B : Nat) (s : ByteArray) (sv : Nat → Addr) (te : TypeId) (size : Nat) (v : Value) (n : Nat) (xs cs : List Value) (mk : Value → Array Value) (r : Except (Int × Int) Int) : Prop where
  rs : RS w' rb s sv r
  op : ∃ v', Blk w' ob 62 (mk v') ∧ w'.ownsRow B te size v' (n + 1) (xs ++ cs) ∧ ∀ g, v'.ownBlock = some g → v.ownBlock = some g ∨ w.heap.size ≤ g
  chg : Chg (fun k => k = rb ∨ k = ob ∨ v.ownBlock = some k) w w'
end Go.Proofs.YtpkkjoiglemlgaaGreatDoor

/-
  opcode's reader: guard. No condition.
-/
namespace Go.Proofs.YtpkkjoiglemlgaaGreatDoor
set_option linter.unusedVariables false
open Go.RowKit Go.Extern.Stop Go.Stop Go.Extern Go.ChangeShapes

theorem code_world {α : World → Prop} (Pw : World → Prop) {W : World} (h : Pw W) (k : ∀ W', Pw W' → α W') : α W := k W h
/-- The world ahead of the append: the reader, the part, what else there was. -/
structure GPre (w W : World) (rb lb : Nat) (s : ByteArray) (sv : Nat → Addr) (t : TypeId) (cs : Array Value) (r : Except (Int × Int) Int) : Prop where
  rs : RS W rb s sv r
  blk : Blk W lb t cs
  new : w.heap.size ≤ lb
  chg : Chg (fun k => k = rb) w W
/-- Behind the append and its store. -/
theorem part_fin {w W w5 w6 : World} {rb ob lb B : Nat} {s : ByteArray} {sv : Nat → Addr} {te : TypeId} {size n : Nat} {v v' : Value} {xs cs : List Value} {cl : Array Value} {mk : Value → Array Value} {r : Except (Int × Int) Int}
    (hob : Blk w ob 62 (mk v)) (hown : w.ownsRow B te size v n xs) (hte : te ≠ 62 ∧ te ≠ 163 ∧ te ≠ 105) (hrb : ∃ q u, Rd w rb s q u)
    (hP : GPre w W rb lb s sv te cl r) (W' : World) (hW' : Below W.heap.size W W') (hown5 : w5.ownsRow B te size v' (n + 1) (xs ++ cs)) (hg : W'.grownBy w5 v.ownBlock) (hloc : v'.ownBlock = v.ownBlock ∨ v'.ownBlock = some W'.heap.size)
    (h6 : Blk w6 ob 62 (mk v')) (hc6 : Chg (fun k => k = ob) w5 w6) : PtOut w w6 rb ob B s sv te size v n xs cs mk r := by
  obtain ⟨q0, u0, hR0⟩ := hrb
  have hne : v.ownBlock ≠ some ob := own_blk_ne hown hob hte.1
  have hsz := hP.chg.size
  have hobl := hob.lt
  have hsz' := hW'.size
  refine ⟨hP.rs.keep fun b t cs ht hB => ?_, ⟨v', h6, ?_, fun g hg' => ?_⟩, ?_⟩
  · have h1 : Blk w5 b t cs := Blk.grown (hB.below hW' hB.lt) hg (fun e => ?_)
    · have hbo : b ≠ ob := fun e => by
        subst e
        have hobW : Blk W b 62 (mk v) := Blk.keep hob (hP.chg.block b hobl fun e => (Blk.ne_ hob (show Blk w rb 163 _ from hR0) (by decide)) e)
        rcases ht with rfl | rfl
        · exact Blk.ne_ hobW hB (by decide) rfl
        · exact Blk.ne_ hobW hB (by decide) rfl
      exact Blk.keep h1 (hc6.block b h1.lt hbo)
    · have hlt := (World.ownsRow.lt hown b e.symm)
      have hWown : W.ownsRow B te size v n xs := ownKeep hown fun g hg' => hP.chg.block g (World.ownsRow.lt hown g hg').2 fun e' => by
        subst e'
        exact own_blk_ne hown (show Blk w _ 163 _ from hR0) hte.2.1 hg'
      refine own_blk_ne hWown hB ?_ e.symm
      rcases ht with rfl | rfl
      · exact hte.2.1
      · exact hte.2.2
  · refine ownKeep hown5 fun g hg' => hc6.block g (World.ownsRow.lt hown5 g hg').2 fun e => ?_
    subst e
    rcases hloc with h | h
    · rw [h] at hg'; exact hne hg'
    · rw [h] at hg'
      injection hg' with hg'
      omega
  · rcases hloc with h | h
    · rw [h] at hg'; exact .inl hg'
    · rw [h] at hg'
      injection hg' with hg'
      right; omega
  · have hc5 : Chg (fun k => k = rb ∨ k = ob ∨ v.ownBlock = some k) w w5 := by
      have h1 : Chg (fun k => v.ownBlock = some k) W' w5 := ⟨hg.os, hg.tape, hg.output, hg.size, fun k hk hn => hg.block k hk fun e => hn e.symm⟩
      exact Chg.trans ((hP.chg.next_ hW').mono fun i hi => .inl hi) h1 fun i hi => .inl (.inr (.inr hi))
    exact hc5.trans hc6 fun i hi => .inl (.inr (.inl hi))
/-- What guard has read. -/
def gRes (s : ByteArray) (p : Int) (k : Nat) : Except (Int × Int) Int := if k = 3 then thenT s 32 (thenT s 16 (ofKind s p 3)) else thenT s 16 (ofKind s p 3)
set_option maxRecDepth 100000 in
set_option maxHeartbeats 4000000 in
theorem guard_any {w : World} {sv : Nat → Addr} (S : Sent w sv) (rb ob B : Nat) (s : ByteArray) (p : Int) (hs : s.size ≤ 1000000) (h : Rd w rb s p .nilIface) (gv tv : Value) (n : Nat) (xs : List Value)
    (hO : Blk w ob 62 #[gv, tv]) (hown : w.ownsRow B 94 3 gv n xs) (hn : n ≤ 1000) (hB : B ≤ w.heap.size) :
    Calls Tryz.prog 108 #[.pointer (some ⟨rb, 0, none⟩), .pointer (some ⟨ob, 0, none⟩)] w fun e w' => e = .returned (.tuple #[]) ∧ ∃ (k : Nat) (x y : ByteArray), k ≤ 3 ∧ (∀ z, knd s p 3 = .ok z → k = z.1) ∧ (∀ c, knd s p 3 = .error c → k = 0) ∧ (∀ q, ofKind s p 3 = .ok q → (tkt s q 16).2.2 = 0 → x = (tkt s q 16).1) ∧ (k = 3 → ∀ q, thenT s 16 (ofKind s p 3) = .ok q → (tkt s q 32).2.2 = 0 → y = (tkt s q 32).1) ∧ (k ≠ 3 → y = ⟨#[]⟩) ∧
      PtOut w w' rb ob B s sv 94 3 gv n xs [.int .i64 k, .string x, .string y] (fun v => #[v, tv]) (gRes s p k) := by
  obtain ⟨i0, hi, hz0, hz1, hz2⟩ := info_parts infoGd
  have hK := Lib.hid (kind_rs S rb s p 3 hs (by decide) h)
  have hrl := h.lt
  have hor : ob ≠ rb := Blk.ne_ hO (show Blk w rb 163 _ from h) (by decide)
  have hSn := Lib.hid (fun W q u (hR : Rd W rb s q u) (hW : Chg (fun k => k = rb) w W) => sent_chg S h hR hW)
  have hOW := Lib.hid (fun W (hW : Chg (fun k => k = rb) w W) => (Blk.keep hO (hW.block ob hO.lt hor) : Blk W ob 62 #[gv, tv]))
  have hoW := Lib.hid (fun W (hW : Chg (fun k => k = rb) w W) => (ownKeep hown fun g hg' => hW.block g (World.ownsRow.lt hown g hg').2 fun e' => by
        subst e'
        exact own_blk_ne hown (show Blk w _ 163 _ from h) (by decide) hg' : W.ownsRow B 94 3 gv n xs))
  have hfin := Lib.hid (fun W w5 w6 lb v' cl cs r => part_fin (w := w) (W := W) (w5 := w5) (w6 := w6) (rb := rb) (ob := ob) (lb := lb) (B := B) (s := s) (sv := sv) (te := 94) (size := 3) (n := n) (v := gv) (v' := v') (xs := xs) (cs := cs) (cl := cl) (mk := fun v => #[v, tv]) (r := r) hO hown (by decide) ⟨_, _, h⟩)
  have hobl := hO.lt
  obtain ⟨A0, n0, p0, rfl⟩ : ∃ A n0 c, gv = .slice A n0 c := by rcases hown.2 with ⟨rfl, _⟩ | ⟨g, cap, cur, rfl, _⟩ <;> exact ⟨_, _, _, rfl⟩
  replace hown := Lib.hid hown
  replace hO := Lib.hid hO
  replace h := Lib.hid h
  replace hor := Lib.hid hor
  clear S
  go_enter Tryz.func108, Tryz.ntmps108
  go_wp2_with fail
  refine (hK.out).mono ?_; rintro e w1 ⟨k, rfl, hk3, hr1, hk1, hk0, hc1⟩
  have hs1 := hc1.size
  have hr2 := hr1.below (w' := w1.alloc (.cells #[.int .i64 k, .string ⟨#[]⟩, .string ⟨#[]⟩] 94)) ((Below.refl _ _).alloc (Nat.le_refl _) _)
  have hc2 := hc1.alloc (.cells #[.int .i64 k, .string ⟨#[]⟩, .string ⟨#[]⟩] 94)
  obtain ⟨q2, u2, hR2⟩ := hr2.rd
  have hT2 := Lib.hid (text_rs (hSn.out _ _ _ hR2 hc2) rb s 16 _ hs (by decide) hr2)
  have hL2 := Lib.hid (Blk.new w1 94 #[.int .i64 k, .string ⟨#[]⟩, .string ⟨#[]⟩])
  replace hr1 := Lib.hid hr1
  replace hr2 := Lib.hid hr2
  replace hR2 := Lib.hid hR2
  replace hc1 := Lib.hid hc1
  replace hc2 := Lib.hid hc2
  replace hk1 := Lib.hid hk1
  replace hk0 := Lib.hid hk0
  go_wp2_with fail
  refine (hT2.out).mono ?_; rintro e w3 ⟨x, rfl, hr3, hx, hc3⟩
  have hlr : w1.heap.size ≠ rb := by omega
  have hL3 := Lib.hid (Blk.keep hL2.out (hc3.block w1.heap.size (by simp) hlr))
  have d0 := hL3.out.cell 0
  have d1 := hL3.out.cell 1
  have d2 := hL3.out.cell 2
  have g1 := hL3.out.frozen 1
  have hr3' := Lib.hid hr3
  have hc3' := Lib.hid (Chg.trans hc2.out hc3 fun i hi => .inl hi)
  have hx' : ∀ q, ofKind s p 3 = .ok q → (tkt s q 16).2.2 = 0 → x = (tkt s q 16).1 := hx
  have hs3 := hc3'.out.size
  have hl3 := hL3.out.lt
  have hr4 : RS (w3.setCell ⟨w1.heap.size, 1, none⟩ (.string x)) rb s sv (thenT s 16 (ofKind s p 3)) := hr3'.out.keep fun b t cs ht hB => hB.far (fun e => by
    have hL := hL3.out
    simp only at e
    rw [← e] at hL
    rcases ht with rfl | rfl
    · exact Blk.ne_ hL hB (by decide) rfl
    · exact Blk.ne_ hL hB (by decide) rfl) _
  have hc4 : Chg (fun k => k = rb) w (w3.setCell ⟨w1.heap.size, 1, none⟩ (.string x)) := hc3'.out.setCell (.inr (by simp only; omega)) _
  have hL4 : Blk (w3.setCell ⟨w1.heap.size, 1, none⟩ (.string x)) w1.heap.size 94 #[.int .i64 k, .string x, .string ⟨#[]⟩] := Blk.eq_cs (Blk.set_ hL3.out 1 _) rfl
  by_cases hk : k = 3
  · have hkb : ((k : Int) == 3) = true := beq_iff_eq.2 (by omega)
    replace hk := Lib.hid hk
    obtain ⟨q4, u4, hR4⟩ := hr4.rd
    have hT4 := Lib.hid (text_rs (hSn.out _ _ _ hR4 hc4) rb s 32 _ hs (by decide) hr4)
    replace hr4 := Lib.hid hr4
    replace hc4 := Lib.hid hc4
    replace hL4 := Lib.hid hL4
    replace hR4 := Lib.hid hR4
    replace hx' := Lib.hid hx'
    clear hr3 hx hc3
    go_wp2_with fail
    refine (hT4.out).mono ?_; rintro e w4 ⟨y, rfl, hr5, hy, hc5⟩
    clear d0 d1 d2 g1
    have hc5' := Lib.hid (Chg.trans hc4.out hc5 fun i hi => .inl hi)
    have hL5 := Lib.hid (Blk.keep hL4.out (hc5.block w1.heap.size (by rw [size_setCell]; exact hl3) hlr))
    have hl5 := hL5.out.lt
    have hs5 := hc5'.out.size
    have d0 := hL5.out.cell 0
    have d1 := hL5.out.cell 1
    have d2 := hL5.out.cell 2
    have g2 := hL5.out.frozen 2
    replace hr5 := Lib.hid hr5
    replace hy := Lib.hid hy
    replace hc5 := Lib.hid hc5
    go_wp2_with fail
    refine code_world (fun W => GPre w W rb w1.heap.size s sv 94 #[.int .i64 k, .string x, .string y] (thenT s 32 (thenT s 16 (ofKind s p 3)))) ?_ fun W hW => ?_
    · exact ⟨hr5.out.keep fun b t cs ht hB => hB.far (fun e => by
        have hL := hL5.out
        simp only at e
        rw [← e] at hL
        rcases ht with rfl | rfl
        · exact Blk.ne_ hL hB (by decide) rfl
        · exact Blk.ne_ hL hB (by decide) rfl) _, Blk.eq_cs (Blk.set_ hL5.out 2 _) rfl, by omega, hc5'.out.setCell (.inr (by simp only; omega)) _⟩
    clear d0 d1 d2 g2 hT4 hL5
    have hO4 := hOW.out _ hW.chg
    have c0 := hO4.cell 0
    have f0 := hO4.frozen 0
    have hrb4 := hW.new
    have d0 := hW.blk.cell 0
    have d1 := hW.blk.cell 1
    have d2 := hW.blk.cell 2
    have hne4 : some ob ≠ (Value.slice A0 n0 p0).ownBlock := fun e => own_blk_ne (hoW.out _ hW.chg) hO4 (by decide) e.symm
    have hown4 := Lib.hid (fun W' (hW' : Below W.heap.size W W') => own_under (hoW.out _ hW.chg) hW')
    have hrd := Lib.hid (fun (W' : World) (hW' : W'.heap.size = W.heap.size) => (by have h1 := readsN W' 94 #[.int .i64 k, .string x, .string y] 3 rfl; rw [hW'] at h1; exact h1 : Reads (W'.alloc (.cells #[.int .i64 k, .string x, .string y] 94)) (W.heap.size + 1) 3 (some ⟨W.heap.size, 0, none⟩) 1 [.int .i64 k, .string x, .string y]))
    have hO4' := Lib.hid (fun W' (hW' : Below W.heap.size W W') => (hO4.below hW' hO4.lt : Blk W' ob 62 #[.slice A0 n0 p0, tv]))
    have hszW := hW.chg.size
    have obW := hO4.lt
    have lbW := hW.blk.lt
    replace hO4 := Lib.hid hO4
    replace hW := Lib.hid hW
    replace hne4 := Lib.hid hne4
    clear hT2 hL2 hL3
    go_region_law (refine step_append_any _ rfl (.tmp 21) (.tmp 23) 59 rfl B 94 i0 (.agg #[.int .i64 0, .string ⟨#[]⟩, .string ⟨#[]⟩]) 3 40 Tryz.underlying59 hi hz0 hz1 hz2 rfl (by decide) (.slice A0 n0 p0) n xs (by simp [Act.eval]) (hown4.out _ (by (repeat first | exact Below.refl _ _ | assumption | refine Below.drew ?_ | refine below_drewN ?_ _ | refine Below.more_ ?_ _ | refine Below.setCell ?_ (by first | exact Nat.le_refl _ | (simp; done) | (simp; omega)) _))) (W.heap.size + 1) (some ⟨W.heap.size, 0, none⟩) 1 1 [.int .i64 k, .string x, .string y] (by simp [Act.eval]) (hrd.out _ (by simp)) (by simp [Value.oneCell']) (by unfold maxLen; omega) (by omega) (by simp; omega) ?_; intro v' w5 hown5 hgrow hloc; obtain ⟨gg, cp, rfl⟩ := ownSucc hown5; have B5 := Blk.grown (hO4'.out _ (by (repeat first | exact Below.refl _ _ | assumption | refine Below.drew ?_ | refine below_drewN ?_ _ | refine Below.more_ ?_ _ | refine Below.setCell ?_ (by first | exact Nat.le_refl _ | (simp; done) | (simp; omega)) _))) hgrow hne4.out; have c0' := B5.cell 0; have f0' := B5.frozen 0; replace B5 := Lib.hid B5; replace hown5 := Lib.hid hown5; replace hgrow := Lib.hid hgrow; replace hloc := Lib.hid hloc)
    all_goals
      go_wp2_with fail
      have hR : ∀ w6, Chg (fun k => k = ob) w5 w6 → Blk w6 ob 62 #[.slice (some ⟨gg, 0, none⟩) (n + 1) cp, tv] → _ := fun w6 hc hB => hfin.out W w5 w6 _ _ _ [.int .i64 k, .string x, .string y] _ hW.out _ (by (repeat first | exact Below.refl _ _ | assumption | refine Below.drew ?_ | refine below_drewN ?_ _ | refine Below.more_ ?_ _ | refine Below.setCell ?_ (by first | exact Nat.le_refl _ | (simp; done) | (simp; omega)) _)) hown5.out hgrow.out hloc.out hB hc
      refine bodyPost_end (v := .tuple #[]) (results_none (by kernel_rfl) _ _ _) rfl ⟨rfl, k, x, y, by omega, hk1.out, hk0.out, hx'.out, fun _ => hy.out, fun h0 => absurd hk.out h0, ?_⟩
      exact (show gRes s p k = thenT s 32 (thenT s 16 (ofKind s p 3)) from if_pos hk.out).symm ▸ hR _ (by (repeat first | exact Chg.refl _ _ | assumption | refine Chg.drew ?_ | refine Chg.drewN ?_ _ | refine Chg.alloc ?_ _ | refine Chg.setCell ?_ (by first | (left; rfl) | (left; assumption) | (right; exact Nat.le_refl _) | (right; simp; done) | (right; simp; omega)) _ | refine Chg.setBlock ?_ (by first | (left; rfl) | (left; assumption) | (right; exact Nat.le_refl _) | (right; simp; done) | (right; simp; omega)) _)) (Blk.eq_cs (B5.out.set_ 0 _) rfl)
  · have hkb : ((k : Int) == 3) = false := beq_eq_false_iff_ne.2 (by omega)
    replace hr4 := Lib.hid hr4
    replace hc4 := Lib.hid hc4
    replace hL4 := Lib.hid hL4
    replace hx' := Lib.hid hx'
    clear hr3 hx hc3
    go_wp2_with fail
    refine code_world (fun W => GPre w W rb w1.heap.size s sv 94 #[.int .i64 k, .string x, .string ⟨#[]⟩] (thenT s 16 (ofKind s p 3))) ?_ fun W hW => ?_
    · exact ⟨hr4.out, hL4.out, by omega, hc4.out⟩
    clear d0 d1 d2 g1
    have hO4 := hOW.out _ hW.chg
    have c0 := hO4.cell 0
    have f0 := hO4.frozen 0
    have hrb4 := hW.new
    have d0 := hW.blk.cell 0
    have d1 := hW.blk.cell 1
    have d2 := hW.blk.cell 2
    have hne4 : some ob ≠ (Value.slice A0 n0 p0).ownBlock := fun e => own_blk_ne (hoW.out _ hW.chg) hO4 (by decide) e.symm
    have hown4 := Lib.hid (fun W' (hW' : Below W.heap.size W W') => own_under (hoW.out _ hW.chg) hW')
    have hrd := Lib.hid (fun (W' : World) (hW' : W'.heap.size = W.heap.size) => (by have h1 := readsN W' 94 #[.int .i64 k, .string x, .string ⟨#[]⟩] 3 rfl; rw [hW'] at h1; exact h1 : Reads (W'.alloc (.cells #[.int .i64 k, .string x, .string ⟨#[]⟩] 94)) (W.heap.size + 1) 3 (some ⟨W.heap.size, 0, none⟩) 1 [.int .i64 k, .string x, .string ⟨#[]⟩]))
    have hO4' := Lib.hid (fun W' (hW' : Below W.heap.size W W') => (hO4.below hW' hO4.lt : Blk W' ob 62 #[.slice A0 n0 p0, tv]))
    have hszW := hW.chg.size
    have obW := hO4.lt
    have lbW := hW.blk.lt
    replace hO4 := Lib.hid hO4
    replace hW := Lib.hid hW
    replace hne4 := Lib.hid hne4
    clear hT2 hL2 hL3
    go_region_law (refine step_append_any _ rfl (.tmp 21) (.tmp 23) 59 rfl B 94 i0 (.agg #[.int .i64 0, .string ⟨#[]⟩, .string ⟨#[]⟩]) 3 40 Tryz.underlying59 hi hz0 hz1 hz2 rfl (by decide) (.slice A0 n0 p0) n xs (by simp [Act.eval]) (hown4.out _ (by (repeat first | exact Below.refl _ _ | assumption | refine Below.drew ?_ | refine below_drewN ?_ _ | refine Below.more_ ?_ _ | refine Below.setCell ?_ (by first | exact Nat.le_refl _ | (simp; done) | (simp; omega)) _))) (W.heap.size + 1) (some ⟨W.heap.size, 0, none⟩) 1 1 [.int .i64 k, .string x, .string ⟨#[]⟩] (by simp [Act.eval]) (hrd.out _ (by simp)) (by simp [Value.oneCell']) (by unfold maxLen; omega) (by omega) (by simp; omega) ?_; intro v' w5 hown5 hgrow hloc; obtain ⟨gg, cp, rfl⟩ := ownSucc hown5; have B5 := Blk.grown (hO4'.out _ (by (repeat first | exact Below.refl _ _ | assumption | refine Below.drew ?_ | refine below_drewN ?_ _ | refine Below.more_ ?_ _ | refine Below.setCell ?_ (by first | exact Nat.le_refl _ | (simp; done) | (simp; omega)) _))) hgrow hne4.out; have c0' := B5.cell 0; have f0' := B5.frozen 0; replace B5 := Lib.hid B5; replace hown5 := Lib.hid hown5; replace hgrow := Lib.hid hgrow; replace hloc := Lib.hid hloc)
    all_goals
      go_wp2_with fail
      have hR : ∀ w6, Chg (fun k => k = ob) w5 w6 → Blk w6 ob 62 #[.slice (some ⟨gg, 0, none⟩) (n + 1) cp, tv] → _ := fun w6 hc hB => hfin.out W w5 w6 _ _ _ [.int .i64 k, .string x, .string ⟨#[]⟩] _ hW.out _ (by (repeat first | exact Below.refl _ _ | assumption | refine Below.drew ?_ | refine below_drewN ?_ _ | refine Below.more_ ?_ _ | refine Below.setCell ?_ (by first | exact Nat.le_refl _ | (simp; done) | (simp; omega)) _)) hown5.out hgrow.out hloc.out hB hc
      refine bodyPost_end (v := .tuple #[]) (results_none (by kernel_rfl) _ _ _) rfl ⟨rfl, k, x, ⟨#[]⟩, by omega, hk1.out, hk0.out, hx'.out, fun h0 => absurd h0 hk, fun _ => rfl, ?_⟩
      exact (show gRes s p k = thenT s 16 (ofKind s p 3) from if_neg hk).symm ▸ hR _ (by (repeat first | exact Chg.refl _ _ | assumption | refine Chg.drew ?_ | refine Chg.drewN ?_ _ | refine Chg.alloc ?_ _ | refine Chg.setCell ?_ (by first | (left; rfl) | (left; assumption) | (right; exact Nat.le_refl _) | (right; simp; done) | (right; simp; omega)) _ | refine Chg.setBlock ?_ (by first | (left; rfl) | (left; assumption) | (right; exact Nat.le_refl _) | (right; simp; done) | (right; simp; omega)) _)) (Blk.eq_cs (B5.out.set_ 0 _) rfl)
end Go.Proofs.YtpkkjoiglemlgaaGreatDoor

/-
  opcode's reader: step. No condition.
-/
namespace Go.Proofs.YtpkkjoiglemlgaaGreatDoor
set_option linter.unusedVariables false
open Go.RowKit Go.Extern.Stop Go.Stop Go.Extern Go.ChangeShapes

/-- What step has read. -/
def sRes (s : ByteArray) (p : Int) (k : Nat) : Except (Int × Int) Int := if k = 1 then thenT s 32 (thenT s 16 (ofKind s p 4)) else if k = 3 then thenI s (thenT s 16 (ofKind s p 4)) else if k = 4 then thenT s 32 (thenT s 32 (thenT s 16 (ofKind s p 4))) else thenT s 16 (ofKind s p 4)
structure SVals (s : ByteArray) (p : Int) (k : Nat) (x y z : ByteArray) (m : Int) : Prop where
  kind : ∀ u, knd s p 4 = .ok u → k = u.1
  kerr : ∀ c, knd s p 4 = .error c → k = 0
  key : ∀ q, ofKind s p 4 = .ok q → (tkt s q 16).2.2 = 0 → x = (tkt s q 16).1
  put : k = 1 → ∀ q, thenT s 16 (ofKind s p 4) = .ok q → (tkt s q 32).2.2 = 0 → y = (tkt s q 32).1
  add : k = 3 → ∀ q, thenT s 16 (ofKind s p 4) = .ok q → (tki s q).2.2 = 0 → m = (tki s q).1
  old : k = 4 → ∀ q, thenT s 16 (ofKind s p 4) = .ok q → (tkt s q 32).2.2 = 0 → z = (tkt s q 32).1
  cas : k = 4 → ∀ q, thenT s 32 (thenT s 16 (ofKind s p 4)) = .ok q → (tkt s q 32).2.2 = 0 → y = (tkt s q 32).1
  noY : k ≠ 1 → k ≠ 4 → y = ⟨#[]⟩
  noZ : k ≠ 4 → z = ⟨#[]⟩
  noM : k ≠ 3 → m = 0
set_option maxRecDepth 100000 in
set_option maxHeartbeats 8000000 in
theorem step_any {w : World} {sv : Nat → Addr} (S : Sent w sv) (rb ob B : Nat) (s : ByteArray) (p : Int) (hs : s.size ≤ 1000000) (h : Rd w rb s p .nilIface) (tv gv : Value) (n : Nat) (xs : List Value)
    (hO : Blk w ob 62 #[tv, gv]) (hown : w.ownsRow B 96 5 gv n xs) (hn : n ≤ 1000) (hB : B ≤ w.heap.size) :
    Calls Tryz.prog 109 #[.pointer (some ⟨rb, 0, none⟩), .pointer (some ⟨ob, 0, none⟩)] w fun e w' => e = .returned (.tuple #[]) ∧ ∃ (k : Nat) (x y z : ByteArray) (m : Int), k ≤ 4 ∧ SVals s p k x y z m ∧
      PtOut w w' rb ob B s sv 96 5 gv n xs [.int .i64 k, .string x, .string y, .string z, .int .i64 m] (fun v => #[tv, v]) (sRes s p k) := by
  obtain ⟨i0, hi, hz0, hz1, hz2⟩ := info_parts infoSt
  have hK := Lib.hid (kind_rs S rb s p 4 hs (by decide) h)
  have hrl := h.lt
  have hor : ob ≠ rb := Blk.ne_ hO (show Blk w rb 163 _ from h) (by decide)
  have hSn := Lib.hid (fun W q u (hR : Rd W rb s q u) (hW : Chg (fun k => k = rb) w W) => sent_chg S h hR hW)
  have hOW := Lib.hid (fun W (hW : Chg (fun k => k = rb) w W) => (Blk.keep hO (hW.block ob hO.lt hor) : Blk W ob 62 #[tv, gv]))
  have hoW := Lib.hid (fun W (hW : Chg (fun k => k = rb) w W) => (ownKeep hown fun g hg' => hW.block g (World.ownsRow.lt hown g hg').2 fun e' => by
        subst e'
        exact own_blk_ne hown (show Blk w _ 163 _ from h) (by decide) hg' : W.ownsRow B 96 5 gv n xs))
  have hfin := Lib.hid (fun W w5 w6 lb v' cl cs r => part_fin (w := w) (W := W) (w5 := w5) (w6 := w6) (rb := rb) (ob := ob) (lb := lb) (B := B) (s := s) (sv := sv) (te := 96) (size := 5) (n := n) (v := gv) (v' := v') (xs := xs) (cs := cs) (cl := cl) (mk := fun v => #[tv, v]) (r := r) hO hown (by decide) ⟨_, _, h⟩)
  have hobl := hO.lt
  obtain ⟨A0, n0, p0, rfl⟩ : ∃ A n0 c, gv = .slice A n0 c := by rcases hown.2 with ⟨rfl, _⟩ | ⟨g, cap, cur, rfl, _⟩ <;> exact ⟨_, _, _, rfl⟩
  replace hown := Lib.hid hown
  replace hO := Lib.hid hO
  replace h := Lib.hid h
  replace hor := Lib.hid hor
  clear S
  go_enter Tryz.func109, Tryz.ntmps109
  go_wp2_with fail
  refine (hK.out).mono ?_; rintro e w1 ⟨k, rfl, hk4, hr1, hk1, hk0, hc1⟩
  have hs1 := hc1.size
  have hr2 := hr1.below (w' := w1.alloc (.cells #[.int .i64 k, .string ⟨#[]⟩, .string ⟨#[]⟩, .string ⟨#[]⟩, .int .i64 0] 96)) ((Below.refl _ _).alloc (Nat.le_refl _) _)
  have hc2 := hc1.alloc (.cells #[.int .i64 k, .string ⟨#[]⟩, .string ⟨#[]⟩, .string ⟨#[]⟩, .int .i64 0] 96)
  obtain ⟨q2, u2, hR2⟩ := hr2.rd
  have hT2 := Lib.hid (text_rs (hSn.out _ _ _ hR2 hc2) rb s 16 _ hs (by decide) hr2)
  have hL2 := Lib.hid (Blk.new w1 96 #[.int .i64 k, .string ⟨#[]⟩, .string ⟨#[]⟩, .string ⟨#[]⟩, .int .i64 0])
  replace hr1 := Lib.hid hr1
  replace hr2 := Lib.hid hr2
  replace hR2 := Lib.hid hR2
  replace hc1 := Lib.hid hc1
  replace hc2 := Lib.hid hc2
  replace hk1 := Lib.hid hk1
  replace hk0 := Lib.hid hk0
  go_wp2_with fail
  refine (hT2.out).mono ?_; rintro e w3 ⟨x, rfl, hr3, hx, hc3⟩
  have hlr : w1.heap.size ≠ rb := by omega
  have hL3 := Lib.hid (Blk.keep hL2.out (hc3.block w1.heap.size (by simp) hlr))
  have d0 := hL3.out.cell 0
  have g1 := hL3.out.frozen 1
  have hr3' := Lib.hid hr3
  have hc3' := Lib.hid (Chg.trans hc2.out hc3 fun i hi => .inl hi)
  have hx' : Hid (∀ q, ofKind s p 4 = .ok q → (tkt s q 16).2.2 = 0 → x = (tkt s q 16).1) := Lib.hid hx
  have d1 := hL3.out.cell 1
  have hs3 := hc3'.out.size
  have hl3 := hL3.out.lt
  have hr4 : RS (w3.setCell ⟨w1.heap.size, 1, none⟩ (.string x)) rb s sv (thenT s 16 (ofKind s p 4)) := hr3'.out.keep fun b t cs ht hB => hB.far (fun e => by
    have hL := hL3.out
    simp only at e
    rw [← e] at hL
    rcases ht with rfl | rfl
    · exact Blk.ne_ hL hB (by decide) rfl
    · exact Blk.ne_ hL hB (by decide) rfl) _
  have hc4 : Chg (fun k => k = rb) w (w3.setCell ⟨w1.heap.size, 1, none⟩ (.string x)) := hc3'.out.setCell (.inr (by simp only; omega)) _
  have hL4 : Blk (w3.setCell ⟨w1.heap.size, 1, none⟩ (.string x)) w1.heap.size 96 #[.int .i64 k, .string x, .string ⟨#[]⟩, .string ⟨#[]⟩, .int .i64 0] := Blk.eq_cs (Blk.set_ hL3.out 1 _) rfl
  obtain ⟨q4, u4, hR4⟩ := hr4.rd
  have hS4 := Lib.hid (hSn.out _ _ _ hR4 hc4)
  replace hR4 := Lib.hid hR4
  clear hr3 hx hc3
  have hcase : k = 1 ∨ k = 3 ∨ k = 4 ∨ (k ≠ 1 ∧ k ≠ 3 ∧ k ≠ 4) := by omega
  rcases hcase with hk | hk | hk | ⟨hk, hk', hk''⟩
  · have kb1 : ((k : Int) == 1) = true := beq_iff_eq.2 (by omega)
    have kb3 : ((k : Int) == 3) = false := beq_eq_false_iff_ne.2 (by omega)
    have kb4 : ((k : Int) == 4) = false := beq_eq_false_iff_ne.2 (by omega)
    replace hk := Lib.hid hk
    replace hr4 := Lib.hid hr4
    replace hc4 := Lib.hid hc4
    replace hL4 := Lib.hid hL4
    have hll4 : w1.heap.size < w3.heap.size := hl3
    have hT5 := Lib.hid (text_rs hS4.out rb s 32 _ hs (by decide) hr4.out)
    go_wp2_with fail
    refine (hT5.out).mono ?_; rintro e v5 ⟨y, rfl, hrr, hy5, hcc⟩
    clear d0 d1 g1
    have hcc5 := Lib.hid (Chg.trans hc4.out hcc fun i hi => .inl hi)
    have hLL5 := Lib.hid (Blk.keep hL4.out (hcc.block w1.heap.size (by rw [size_setCell]; exact hll4) hlr))
    have hl5 := hLL5.out.lt
    have hs5 := hcc5.out.size
    have d0 := hLL5.out.cell 0
    have d1 := hLL5.out.cell 2
    have g1 := hLL5.out.frozen 2
    have hr5 := Lib.hid (hrr.keep (w' := v5.setCell ⟨w1.heap.size, 2, none⟩ (.string y)) fun b t cs ht hB => hB.far (fun e => by
        have hL := hLL5.out
        simp only at e
        rw [← e] at hL
        rcases ht with rfl | rfl
        · exact Blk.ne_ hL hB (by decide) rfl
        · exact Blk.ne_ hL hB (by decide) rfl) _)
    have hc5 := Lib.hid (hcc5.out.setCell (p := ⟨w1.heap.size, 2, none⟩) (.inr (by simp only; omega)) (.string y))
    have hll5 : w1.heap.size < v5.heap.size := hl5
    obtain ⟨q5, u5, hRR5⟩ := hr5.out.rd
    have hS5 := Lib.hid (hSn.out _ _ _ hRR5 hc5.out)
    replace hRR5 := Lib.hid hRR5
    replace hy5 := Lib.hid hy5
    clear hrr hcc
    have hL5 : Blk (v5.setCell ⟨w1.heap.size, 2, none⟩ (.string y)) w1.heap.size 96 #[.int .i64 k, .string x, .string y, .string ⟨#[]⟩, .int .i64 0] := Blk.eq_cs (Blk.set_ hLL5.out 2 _) rfl
    replace hL5 := Lib.hid hL5
    go_wp2_with fail
    refine code_world (fun W => GPre w W rb w1.heap.size s sv 96 #[.int .i64 k, .string x, .string y, .string ⟨#[]⟩, .int .i64 0] (thenT s 32 (thenT s 16 (ofKind s p 4)))) ?_ fun W hW => ?_
    · exact ⟨hr5.out, hL5.out, by omega, hc5.out⟩
    clear d0 d1 g1 hT5 hL5 hLL5
    have hO4 := hOW.out _ hW.chg
    have c0 := hO4.cell 1
    have f0 := hO4.frozen 1
    have hrb4 := hW.new
    have d0 := hW.blk.cell 0
    have d1 := hW.blk.cell 1
    have d2 := hW.blk.cell 2
    have d3 := hW.blk.cell 3
    have d4 := hW.blk.cell 4
    have hne4 : some ob ≠ (Value.slice A0 n0 p0).ownBlock := fun e => own_blk_ne (hoW.out _ hW.chg) hO4 (by decide) e.symm
    have hown4 := Lib.hid (fun W' (hW' : Below W.heap.size W W') => own_under (hoW.out _ hW.chg) hW')
    have hrd := Lib.hid (fun (W' : World) (hW' : W'.heap.size = W.heap.size) => (by have h1 := readsN W' 96 #[.int .i64 k, .string x, .string y, .string ⟨#[]⟩, .int .i64 0] 5 rfl; rw [hW'] at h1; exact h1 : Reads (W'.alloc (.cells #[.int .i64 k, .string x, .string y, .string ⟨#[]⟩, .int .i64 0] 96)) (W.heap.size + 1) 5 (some ⟨W.heap.size, 0, none⟩) 1 [.int .i64 k, .string x, .string y, .string ⟨#[]⟩, .int .i64 0]))
    have hO4' := Lib.hid (fun W' (hW' : Below W.heap.size W W') => (hO4.below hW' hO4.lt : Blk W' ob 62 #[tv, .slice A0 n0 p0]))
    have hszW := hW.chg.size
    have obW := hO4.lt
    have lbW := hW.blk.lt
    replace hO4 := Lib.hid hO4
    replace hW := Lib.hid hW
    replace hne4 := Lib.hid hne4
    clear hT2 hL2 hL3
    go_region_law (refine step_append_any _ rfl (.tmp 57) (.tmp 59) 60 rfl B 96 i0 (.agg #[.int .i64 0, .string ⟨#[]⟩, .string ⟨#[]⟩, .string ⟨#[]⟩, .int .i64 0]) 5 64 Tryz.underlying60 hi hz0 hz1 hz2 rfl (by decide) (.slice A0 n0 p0) n xs (by simp [Act.eval]) (hown4.out _ (by (repeat first | exact Below.refl _ _ | assumption | refine Below.drew ?_ | refine below_drewN ?_ _ | refine Below.more_ ?_ _ | refine Below.setCell ?_ (by first | exact Nat.le_refl _ | (simp; done) | (simp; omega)) _))) (W.heap.size + 1) (some ⟨W.heap.size, 0, none⟩) 1 1 [.int .i64 k, .string x, .string y, .string ⟨#[]⟩, .int .i64 0] (by simp [Act.eval]) (hrd.out _ (by simp)) (by simp [Value.oneCell']) (by unfold maxLen; omega) (by omega) (by simp; omega) ?_; intro v' w5 hown5 hgrow hloc; obtain ⟨gg, cp, rfl⟩ := ownSucc hown5; have B5 := Blk.grown (hO4'.out _ (by (repeat first | exact Below.refl _ _ | assumption | refine Below.drew ?_ | refine below_drewN ?_ _ | refine Below.more_ ?_ _ | refine Below.setCell ?_ (by first | exact Nat.le_refl _ | (simp; done) | (simp; omega)) _))) hgrow hne4.out; have c0' := B5.cell 1; have f0' := B5.frozen 1; replace B5 := Lib.hid B5; replace hown5 := Lib.hid hown5; replace hgrow := Lib.hid hgrow; replace hloc := Lib.hid hloc)
    all_goals
      go_wp2_with fail
      have hR : ∀ w6, Chg (fun k => k = ob) w5 w6 → Blk w6 ob 62 #[tv, .slice (some ⟨gg, 0, none⟩) (n + 1) cp] → _ := fun w6 hc hB => hfin.out W w5 w6 _ _ _ [.int .i64 k, .string x, .string y, .string ⟨#[]⟩, .int .i64 0] _ hW.out _ (by (repeat first | exact Below.refl _ _ | assumption | refine Below.drew ?_ | refine below_drewN ?_ _ | refine Below.more_ ?_ _ | refine Below.setCell ?_ (by first | exact Nat.le_refl _ | (simp; done) | (simp; omega)) _)) hown5.out hgrow.out hloc.out hB hc
      refine bodyPost_end (v := .tuple #[]) (results_none (by kernel_rfl) _ _ _) rfl ⟨rfl, k, x, y, ⟨#[]⟩, 0, by omega, ⟨hk1.out, hk0.out, hx'.out, fun _ => hy5.out, fun h0 => absurd h0 (by have := hk.out; omega), fun h0 => absurd h0 (by have := hk.out; omega), fun h0 => absurd h0 (by have := hk.out; omega), fun h0 => absurd hk.out h0, fun _ => rfl, fun _ => rfl⟩, ?_⟩
      exact (show sRes s p k = thenT s 32 (thenT s 16 (ofKind s p 4)) from by unfold sRes; rw [if_pos hk.out]).symm ▸ hR _ (by (repeat first | exact Chg.refl _ _ | assumption | refine Chg.drew ?_ | refine Chg.drewN ?_ _ | refine Chg.alloc ?_ _ | refine Chg.setCell ?_ (by first | (left; rfl) | (left; assumption) | (right; exact Nat.le_refl _) | (right; simp; done) | (right; simp; omega)) _ | refine Chg.setBlock ?_ (by first | (left; rfl) | (left; assumption) | (right; exact Nat.le_refl _) | (right; simp; done) | (right; simp; omega)) _)) (Blk.eq_cs (B5.out.set_ 1 _) rfl)
  · have kb1 : ((k : Int) == 1) = false := beq_eq_false_iff_ne.2 (by omega)
    have kb3 : ((k : Int) == 3) = true := beq_iff_eq.2 (by omega)
    have kb4 : ((k : Int) == 4) = false := beq_eq_false_iff_ne.2 (by omega)
    replace hk := Lib.hid hk
    cases hr : thenT s 16 (ofKind s p 4) with
    | error e4 =>
      rw [hr] at hr4
      have hrE := hr4
      obtain ⟨q5, v5, hR5, hv5⟩ := hr4
      obtain ⟨ty, u, rfl⟩ := hv5.iface
      obtain ⟨_, _, c5, _, _⟩ := nil_cell hR5
      have c5' : w3.cell? ⟨rb, 2, none⟩ = some (.iface ty u) := (World.cell?_setCell_other w3 _ ⟨rb, 2, none⟩ _ (fun e => by injection e with e1; exact hlr e1)).symm.trans c5
      replace hrE := Lib.hid hrE
      replace hR5 := Lib.hid hR5
      replace hv5 := Lib.hid hv5
      replace hr := Lib.hid hr
      replace hc4 := Lib.hid hc4
      replace hL4 := Lib.hid hL4
      go_wp2_with fail
      refine code_world (fun W => GPre w W rb w1.heap.size s sv 96 #[.int .i64 k, .string x, .string ⟨#[]⟩, .string ⟨#[]⟩, .int .i64 0] (.error e4)) ?_ fun W hW => ?_
      · exact ⟨hrE.out, hL4.out, by omega, hc4.out⟩
      clear d0 d1 g1 c5 c5'
      have hO4 := hOW.out _ hW.chg
      have c0 := hO4.cell 1
      have f0 := hO4.frozen 1
      have hrb4 := hW.new
      have d0 := hW.blk.cell 0
      have d1 := hW.blk.cell 1
      have d2 := hW.blk.cell 2
      have d3 := hW.blk.cell 3
      have d4 := hW.blk.cell 4
      have hne4 : some ob ≠ (Value.slice A0 n0 p0).ownBlock := fun e => own_blk_ne (hoW.out _ hW.chg) hO4 (by decide) e.symm
      have hown4 := Lib.hid (fun W' (hW' : Below W.heap.size W W') => own_under (hoW.out _ hW.chg) hW')
      have hrd := Lib.hid (fun (W' : World) (hW' : W'.heap.size = W.heap.size) => (by have h1 := readsN W' 96 #[.int .i64 k, .string x, .string ⟨#[]⟩, .string ⟨#[]⟩, .int .i64 0] 5 rfl; rw [hW'] at h1; exact h1 : Reads (W'.alloc (.cells #[.int .i64 k, .string x, .string ⟨#[]⟩, .string ⟨#[]⟩, .int .i64 0] 96)) (W.heap.size + 1) 5 (some ⟨W.heap.size, 0, none⟩) 1 [.int .i64 k, .string x, .string ⟨#[]⟩, .string ⟨#[]⟩, .int .i64 0]))
      have hO4' := Lib.hid (fun W' (hW' : Below W.heap.size W W') => (hO4.below hW' hO4.lt : Blk W' ob 62 #[tv, .slice A0 n0 p0]))
      have hszW := hW.chg.size
      have obW := hO4.lt
      have lbW := hW.blk.lt
      replace hO4 := Lib.hid hO4
      replace hW := Lib.hid hW
      replace hne4 := Lib.hid hne4
      clear hT2 hL2 hL3
      go_region_law (refine step_append_any _ rfl (.tmp 57) (.tmp 59) 60 rfl B 96 i0 (.agg #[.int .i64 0, .string ⟨#[]⟩, .string ⟨#[]⟩, .string ⟨#[]⟩, .int .i64 0]) 5 64 Tryz.underlying60 hi hz0 hz1 hz2 rfl (by decide) (.slice A0 n0 p0) n xs (by simp [Act.eval]) (hown4.out _ (by (repeat first | exact Below.refl _ _ | assumption | refine Below.drew ?_ | refine below_drewN ?_ _ | refine Below.more_ ?_ _ | refine Below.setCell ?_ (by first | exact Nat.le_refl _ | (simp; done) | (simp; omega)) _))) (W.heap.size + 1) (some ⟨W.heap.size, 0, none⟩) 1 1 [.int .i64 k, .string x, .string ⟨#[]⟩, .string ⟨#[]⟩, .int .i64 0] (by simp [Act.eval]) (hrd.out _ (by simp)) (by simp [Value.oneCell']) (by unfold maxLen; omega) (by omega) (by simp; omega) ?_; intro v' w5 hown5 hgrow hloc; obtain ⟨gg, cp, rfl⟩ := ownSucc hown5; have B5 := Blk.grown (hO4'.out _ (by (repeat first | exact Below.refl _ _ | assumption | refine Below.drew ?_ | refine below_drewN ?_ _ | refine Below.more_ ?_ _ | refine Below.setCell ?_ (by first | exact Nat.le_refl _ | (simp; done) | (simp; omega)) _))) hgrow hne4.out; have c0' := B5.cell 1; have f0' := B5.frozen 1; replace B5 := Lib.hid B5; replace hown5 := Lib.hid hown5; replace hgrow := Lib.hid hgrow; replace hloc := Lib.hid hloc)
      all_goals
        go_wp2_with fail
        have hR : ∀ w6, Chg (fun k => k = ob) w5 w6 → Blk w6 ob 62 #[tv, .slice (some ⟨gg, 0, none⟩) (n + 1) cp] → _ := fun w6 hc hB => hfin.out W w5 w6 _ _ _ [.int .i64 k, .string x, .string ⟨#[]⟩, .string ⟨#[]⟩, .int .i64 0] _ hW.out _ (by (repeat first | exact Below.refl _ _ | assumption | refine Below.drew ?_ | refine below_drewN ?_ _ | refine Below.more_ ?_ _ | refine Below.setCell ?_ (by first | exact Nat.le_refl _ | (simp; done) | (simp; omega)) _)) hown5.out hgrow.out hloc.out hB hc
        refine bodyPost_end (v := .tuple #[]) (results_none (by kernel_rfl) _ _ _) rfl ⟨rfl, k, x, ⟨#[]⟩, ⟨#[]⟩, 0, by omega, ⟨hk1.out, hk0.out, hx'.out, fun h0 => absurd h0 (by have := hk.out; omega), fun _ q hq => absurd (hr.out.symm.trans hq) (by simp), fun h0 => absurd h0 (by have := hk.out; omega), fun h0 => absurd h0 (by have := hk.out; omega), fun _ _ => rfl, fun _ => rfl, fun _ => rfl⟩, ?_⟩
        exact (show sRes s p k = .error e4 from by unfold sRes; rw [if_neg (by have := hk.out; omega), if_pos hk.out, hr.out]; rfl).symm ▸ hR _ (by (repeat first | exact Chg.refl _ _ | assumption | refine Chg.drew ?_ | refine Chg.drewN ?_ _ | refine Chg.alloc ?_ _ | refine Chg.setCell ?_ (by first | (left; rfl) | (left; assumption) | (right; exact Nat.le_refl _) | (right; simp; done) | (right; simp; omega)) _ | refine Chg.setBlock ?_ (by first | (left; rfl) | (left; assumption) | (right; exact Nat.le_refl _) | (right; simp; done) | (right; simp; omega)) _)) (Blk.eq_cs (B5.out.set_ 1 _) rfl)
    | ok q4' =>
      rw [hr] at hr4
      have W4s : (w3.setCell ⟨w1.heap.size, 1, none⟩ (.string x)).heap.size = w3.heap.size := size_setCell _ _ _
      have hTI := Lib.hid (fun W (hW : Below (w3.setCell ⟨w1.heap.size, 1, none⟩ (.string x)).heap.size (w3.setCell ⟨w1.heap.size, 1, none⟩ (.string x)) W) => takeInt_any (hS4.out.below hW) s q4' hs)
      obtain ⟨c3, c4, c5, f4, f5⟩ := nil_cell hr4
      have e3 : ∀ j, w3.cell? ⟨rb, j, none⟩ = (w3.setCell ⟨w1.heap.size, 1, none⟩ (.string x)).cell? ⟨rb, j, none⟩ := fun j => (World.cell?_setCell_other w3 _ ⟨rb, j, none⟩ _ (fun e => by injection e with e1; exact hlr e1)).symm
      rw [← e3] at c3 c4 c5
      have hRb := Lib.hid (fun W (hW : Below (w3.setCell ⟨w1.heap.size, 1, none⟩ (.string x)).heap.size (w3.setCell ⟨w1.heap.size, 1, none⟩ (.string x)) W) => (Blk.below hr4 hW hr4.lt : Rd W rb s q4' .nilIface))
      have hLb := Lib.hid (fun W (hW : Below (w3.setCell ⟨w1.heap.size, 1, none⟩ (.string x)).heap.size (w3.setCell ⟨w1.heap.size, 1, none⟩ (.string x)) W) => hL4.below hW hL4.lt)
      have hC4 := Lib.hid hc4
      have hthen : thenI s (thenT s 16 (ofKind s p 4)) = if (tki s q4').2.2 ≠ 0 then .error ((tki s q4').2.2, q4') else .ok (tki s q4').2.1 := by rw [hr]; rfl
      have hadd : ∀ m, m = (tki s q4').1 → (k = 3 → ∀ q, thenT s 16 (ofKind s p 4) = .ok q → (tki s q).2.2 = 0 → m = (tki s q).1) := fun m hm _ q hq _ => by rw [hr] at hq; injection hq with hq; rw [← hq]; exact hm
      replace hadd := Lib.hid hadd
      generalize (tki s q4').1 = m at *
      generalize (tki s q4').2.1 = b5 at *
      generalize (tki s q4').2.2 = c6 at *
      replace hr4 := Lib.hid hr4
      replace hL4 := Lib.hid hL4
      replace hr := Lib.hid hr
      replace e3 := Lib.hid e3
      replace W4s := Lib.hid W4s
      clear hc4
      by_cases h6 : c6 = 0
      · subst h6
        rw [if_neg (by decide)] at hthen
        replace hthen := Lib.hid hthen
        go_wp2_with fail
        clear d0 d1 g1
        go_region_with (first
          | (go_at_call 139; refine (hTI.out _ (by first | exact Below.refl _ _ | exact (Below.refl _ _).drew)).mono ?_; rintro e w6 ⟨v, rfl, hv, hb6'⟩; have hb6 : Below (w3.setCell ⟨w1.heap.size, 1, none⟩ (.string x)).heap.size (w3.setCell ⟨w1.heap.size, 1, none⟩ (.string x)) w6 := ⟨hb6'.os, hb6'.tape, hb6'.output, hb6'.size, hb6'.block⟩; obtain rfl := tk_nil hv; clear hv; have hR6 := hRb.out _ hb6; have hL6 := hLb.out _ hb6; obtain ⟨c3', c4', c5', f4', f5'⟩ := nil_cell hR6; have l4 := hL6.cell 4; have lf4 := hL6.frozen 4; have hC6 := hC4.out.next_ hb6; replace hR6 := Lib.hid hR6; replace hL6 := Lib.hid hL6; replace hC6 := Lib.hid hC6))
        all_goals
          go_wp2_with fail
          refine code_world (fun W => GPre w W rb w1.heap.size s sv 96 #[.int .i64 k, .string x, .string ⟨#[]⟩, .string ⟨#[]⟩, .int .i64 m] (.ok b5)) ?_ fun W hW => ?_
          · refine ⟨rd_err (rd_at (Blk.far hR6.out hlr.symm _) _) _, Blk.far (Blk.far (Blk.eq_cs (Blk.set_ hL6.out 4 _) rfl) hlr _) hlr _, by omega, ((hC6.out.setCell (.inr (by simp only; omega)) _).setCell (.inl rfl) _).setCell (.inl rfl) _⟩
          clear l4 lf4 c3 c4 c5 c3' c4' c5' f4' f5'
          have hO4 := hOW.out _ hW.chg
          have c0 := hO4.cell 1
          have f0 := hO4.frozen 1
          have hrb4 := hW.new
          have d0 := hW.blk.cell 0
          have d1 := hW.blk.cell 1
          have d2 := hW.blk.cell 2
          have d3 := hW.blk.cell 3
          have d4 := hW.blk.cell 4
          have hne4 : some ob ≠ (Value.slice A0 n0 p0).ownBlock := fun e => own_blk_ne (hoW.out _ hW.chg) hO4 (by decide) e.symm
          have hown4 := Lib.hid (fun W' (hW' : Below W.heap.size W W') => own_under (hoW.out _ hW.chg) hW')
          have hrd := Lib.hid (fun (W' : World) (hW' : W'.heap.size = W.heap.size) => (by have h1 := readsN W' 96 #[.int .i64 k, .string x, .string ⟨#[]⟩, .string ⟨#[]⟩, .int .i64 m] 5 rfl; rw [hW'] at h1; exact h1 : Reads (W'.alloc (.cells #[.int .i64 k, .string x, .string ⟨#[]⟩, .string ⟨#[]⟩, .int .i64 m] 96)) (W.heap.size + 1) 5 (some ⟨W.heap.size, 0, none⟩) 1 [.int .i64 k, .string x, .string ⟨#[]⟩, .string ⟨#[]⟩, .int .i64 m]))
          have hO4' := Lib.hid (fun W' (hW' : Below W.heap.size W W') => (hO4.below hW' hO4.lt : Blk W' ob 62 #[tv, .slice A0 n0 p0]))
          have hszW := hW.chg.size
          have obW := hO4.lt
          have lbW := hW.blk.lt
          replace hO4 := Lib.hid hO4
          replace hW := Lib.hid hW
          replace hne4 := Lib.hid hne4
          clear hT2 hL2 hL3
          go_region_law (refine step_append_any _ rfl (.tmp 57) (.tmp 59) 60 rfl B 96 i0 (.agg #[.int .i64 0, .string ⟨#[]⟩, .string ⟨#[]⟩, .string ⟨#[]⟩, .int .i64 0]) 5 64 Tryz.underlying60 hi hz0 hz1 hz2 rfl (by decide) (.slice A0 n0 p0) n xs (by simp [Act.eval]) (hown4.out _ (by (repeat first | exact Below.refl _ _ | assumption | refine Below.drew ?_ | refine below_drewN ?_ _ | refine Below.more_ ?_ _ | refine Below.setCell ?_ (by first | exact Nat.le_refl _ | (simp; done) | (simp; omega)) _))) (W.heap.size + 1) (some ⟨W.heap.size, 0, none⟩) 1 1 [.int .i64 k, .string x, .string ⟨#[]⟩, .string ⟨#[]⟩, .int .i64 m] (by simp [Act.eval]) (hrd.out _ (by simp)) (by simp [Value.oneCell']) (by unfold maxLen; omega) (by omega) (by simp; omega) ?_; intro v' w5 hown5 hgrow hloc; obtain ⟨gg, cp, rfl⟩ := ownSucc hown5; have B5 := Blk.grown (hO4'.out _ (by (repeat first | exact Below.refl _ _ | assumption | refine Below.drew ?_ | refine below_drewN ?_ _ | refine Below.more_ ?_ _ | refine Below.setCell ?_ (by first | exact Nat.le_refl _ | (simp; done) | (simp; omega)) _))) hgrow hne4.out; have c0' := B5.cell 1; have f0' := B5.frozen 1; replace B5 := Lib.hid B5; replace hown5 := Lib.hid hown5; replace hgrow := Lib.hid hgrow; replace hloc := Lib.hid hloc)
          all_goals
            go_wp2_with fail
            have hR : ∀ w6, Chg (fun k => k = ob) w5 w6 → Blk w6 ob 62 #[tv, .slice (some ⟨gg, 0, none⟩) (n + 1) cp] → _ := fun w6 hc hB => hfin.out W w5 w6 _ _ _ [.int .i64 k, .string x, .string ⟨#[]⟩, .string ⟨#[]⟩, .int .i64 m] _ hW.out _ (by (repeat first | exact Below.refl _ _ | assumption | refine Below.drew ?_ | refine below_drewN ?_ _ | refine Below.more_ ?_ _ | refine Below.setCell ?_ (by first | exact Nat.le_refl _ | (simp; done) | (simp; omega)) _)) hown5.out hgrow.out hloc.out hB hc
            refine bodyPost_end (v := .tuple #[]) (results_none (by kernel_rfl) _ _ _) rfl ⟨rfl, k, x, ⟨#[]⟩, ⟨#[]⟩, m, by omega, ⟨hk1.out, hk0.out, hx'.out, fun h0 => absurd h0 (by have := hk.out; omega), hadd.out m rfl, fun h0 => absurd h0 (by have := hk.out; omega), fun h0 => absurd h0 (by have := hk.out; omega), fun _ _ => rfl, fun _ => rfl, fun h0 => absurd hk.out h0⟩, ?_⟩
            exact (show sRes s p k = .ok b5 from by unfold sRes; rw [if_neg (by have := hk.out; omega), if_pos hk.out, hthen.out]).symm ▸ hR _ (by (repeat first | exact Chg.refl _ _ | assumption | refine Chg.drew ?_ | refine Chg.drewN ?_ _ | refine Chg.alloc ?_ _ | refine Chg.setCell ?_ (by first | (left; rfl) | (left; assumption) | (right; exact Nat.le_refl _) | (right; simp; done) | (right; simp; omega)) _ | refine Chg.setBlock ?_ (by first | (left; rfl) | (left; assumption) | (right; exact Nat.le_refl _) | (right; simp; done) | (right; simp; omega)) _)) (Blk.eq_cs (B5.out.set_ 1 _) rfl)
      · rw [if_pos h6] at hthen
        replace hthen := Lib.hid hthen
        replace h6 := Lib.hid h6
        go_wp2_with fail
        clear d0 d1 g1
        go_region_with (first
          | (go_at_call 139; refine (hTI.out _ (by first | exact Below.refl _ _ | exact (Below.refl _ _).drew)).mono ?_; rintro e w6 ⟨v, rfl, hv, hb6'⟩; have hb6 : Below (w3.setCell ⟨w1.heap.size, 1, none⟩ (.string x)).heap.size (w3.setCell ⟨w1.heap.size, 1, none⟩ (.string x)) w6 := ⟨hb6'.os, hb6'.tape, hb6'.output, hb6'.size, hb6'.block⟩; replace hv := hv.resolve_left (fun hx => h6.out hx.1); obtain ⟨ty, u, rfl⟩ := hv.2.iface; replace hv := Lib.hid hv; have hR6 := hRb.out _ hb6; have hL6 := hLb.out _ hb6; obtain ⟨c3', c4', c5', f4', f5'⟩ := nil_cell hR6; have l4 := hL6.cell 4; have lf4 := hL6.frozen 4; have hC6 := hC4.out.next_ hb6; replace hR6 := Lib.hid hR6; replace hL6 := Lib.hid hL6; replace hC6 := Lib.hid hC6))
        all_goals
          go_wp2_with fail
          refine code_world (fun W => GPre w W rb w1.heap.size s sv 96 #[.int .i64 k, .string x, .string ⟨#[]⟩, .string ⟨#[]⟩, .int .i64 m] (.error (c6, q4'))) ?_ fun W hW => ?_
          · refine ⟨⟨b5, _, rd_err (rd_at (Blk.far hR6.out hlr.symm _) _) _, ?_⟩, Blk.far (Blk.far (Blk.eq_cs (Blk.set_ hL6.out 4 _) rfl) hlr _) hlr _, by omega, ((hC6.out.setCell (.inr (by simp only; omega)) _).setCell (.inl rfl) _).setCell (.inl rfl) _⟩
            exact err_set (rd_at (Blk.far hR6.out hlr.symm _) _) 2 _ (err_set (Blk.far hR6.out hlr.symm _) 1 _ (err_stays (fun b cs hb => Blk.far hb (fun e => by
              simp only at e
              have hL := hL6.out
              rw [← e] at hL
              exact Blk.ne_ hL hb (by decide) rfl) _) hv.out.2))
          clear l4 lf4 c3 c4 c5 c3' c4' c5' f4' f5'
          have hO4 := hOW.out _ hW.chg
          have c0 := hO4.cell 1
          have f0 := hO4.frozen 1
          have hrb4 := hW.new
          have d0 := hW.blk.cell 0
          have d1 := hW.blk.cell 1
          have d2 := hW.blk.cell 2
          have d3 := hW.blk.cell 3
          have d4 := hW.blk.cell 4
          have hne4 : some ob ≠ (Value.slice A0 n0 p0).ownBlock := fun e => own_blk_ne (hoW.out _ hW.chg) hO4 (by decide) e.symm
          have hown4 := Lib.hid (fun W' (hW' : Below W.heap.size W W') => own_under (hoW.out _ hW.chg) hW')
          have hrd := Lib.hid (fun (W' : World) (hW' : W'.heap.size = W.heap.size) => (by have h1 := readsN W' 96 #[.int .i64 k, .string x, .string ⟨#[]⟩, .string ⟨#[]⟩, .int .i64 m] 5 rfl; rw [hW'] at h1; exact h1 : Reads (W'.alloc (.cells #[.int .i64 k, .string x, .string ⟨#[]⟩, .string ⟨#[]⟩, .int .i64 m] 96)) (W.heap.size + 1) 5 (some ⟨W.heap.size, 0, none⟩) 1 [.int .i64 k, .string x, .string ⟨#[]⟩, .string ⟨#[]⟩, .int .i64 m]))
          have hO4' := Lib.hid (fun W' (hW' : Below W.heap.size W W') => (hO4.below hW' hO4.lt : Blk W' ob 62 #[tv, .slice A0 n0 p0]))
          have hszW := hW.chg.size
          have obW := hO4.lt
          have lbW := hW.blk.lt
          replace hO4 := Lib.hid hO4
          replace hW := Lib.hid hW
          replace hne4 := Lib.hid hne4
          clear hT2 hL2 hL3
          go_region_law (refine step_append_any _ rfl (.tmp 57) (.tmp 59) 60 rfl B 96 i0 (.agg #[.int .i64 0, .string ⟨#[]⟩, .string ⟨#[]⟩, .string ⟨#[]⟩, .int .i64 0]) 5 64 Tryz.underlying60 hi hz0 hz1 hz2 rfl (by decide) (.slice A0 n0 p0) n xs (by simp [Act.eval]) (hown4.out _ (by (repeat first | exact Below.refl _ _ | assumption | refine Below.drew ?_ | refine below_drewN ?_ _ | refine Below.more_ ?_ _ | refine Below.setCell ?_ (by first | exact Nat.le_refl _ | (simp; done) | (simp; omega)) _))) (W.heap.size + 1) (some ⟨W.heap.size, 0, none⟩) 1 1 [.int .i64 k, .string x, .string ⟨#[]⟩, .string ⟨#[]⟩, .int .i64 m] (by simp [Act.eval]) (hrd.out _ (by simp)) (by simp [Value.oneCell']) (by unfold maxLen; omega) (by omega) (by simp; omega) ?_; intro v' w5 hown5 hgrow hloc; obtain ⟨gg, cp, rfl⟩ := ownSucc hown5; have B5 := Blk.grown (hO4'.out _ (by (repeat first | exact Below.refl _ _ | assumption | refine Below.drew ?_ | refine below_drewN ?_ _ | refine Below.more_ ?_ _ | refine Below.setCell ?_ (by first | exact Nat.le_refl _ | (simp; done) | (simp; omega)) _))) hgrow hne4.out; have c0' := B5.cell 1; have f0' := B5.frozen 1; replace B5 := Lib.hid B5; replace hown5 := Lib.hid hown5; replace hgrow := Lib.hid hgrow; replace hloc := Lib.hid hloc)
          all_goals
            go_wp2_with fail
            have hR : ∀ w6, Chg (fun k => k = ob) w5 w6 → Blk w6 ob 62 #[tv, .slice (some ⟨gg, 0, none⟩) (n + 1) cp] → _ := fun w6 hc hB => hfin.out W w5 w6 _ _ _ [.int .i64 k, .string x, .string ⟨#[]⟩, .string ⟨#[]⟩, .int .i64 m] _ hW.out _ (by (repeat first | exact Below.refl _ _ | assumption | refine Below.drew ?_ | refine below_drewN ?_ _ | refine Below.more_ ?_ _ | refine Below.setCell ?_ (by first | exact Nat.le_refl _ | (simp; done) | (simp; omega)) _)) hown5.out hgrow.out hloc.out hB hc
            refine bodyPost_end (v := .tuple #[]) (results_none (by kernel_rfl) _ _ _) rfl ⟨rfl, k, x, ⟨#[]⟩, ⟨#[]⟩, m, by omega, ⟨hk1.out, hk0.out, hx'.out, fun h0 => absurd h0 (by have := hk.out; omega), hadd.out m rfl, fun h0 => absurd h0 (by have := hk.out; omega), fun h0 => absurd h0 (by have := hk.out; omega), fun _ _ => rfl, fun _ => rfl, fun h0 => absurd hk.out h0⟩, ?_⟩
            exact (show sRes s p k = .error (c6, q4') from by unfold sRes; rw [if_neg (by have := hk.out; omega), if_pos hk.out, hthen.out]).symm ▸ hR _ (by (repeat first | exact Chg.refl _ _ | assumption | refine Chg.drew ?_ | refine Chg.drewN ?_ _ | refine Chg.alloc ?_ _ | refine Chg.setCell ?_ (by first | (left; rfl) | (left; assumption) | (right; exact Nat.le_refl _) | (right; simp; done) | (right; simp; omega)) _ | refine Chg.setBlock ?_ (by first | (left; rfl) | (left; assumption) | (right; exact Nat.le_refl _) | (right; simp; done) | (right; simp; omega)) _)) (Blk.eq_cs (B5.out.set_ 1 _) rfl)
  · have kb1 : ((k : Int) == 1) = false := beq_eq_false_iff_ne.2 (by omega)
    have kb3 : ((k : Int) == 3) = false := beq_eq_false_iff_ne.2 (by omega)
    have kb4 : ((k : Int) == 4) = true := beq_iff_eq.2 (by omega)
    replace hk := Lib.hid hk
    replace hr4 := Lib.hid hr4
    replace hc4 := Lib.hid hc4
    replace hL4 := Lib.hid hL4
    have hll4 : w1.heap.size < w3.heap.size := hl3
    have hT5 := Lib.hid (text_rs hS4.out rb s 32 _ hs (by decide) hr4.out)
    go_wp2_with fail
    refine (hT5.out).mono ?_; rintro e v5 ⟨z, rfl, hrr, hy5, hcc⟩
    clear d0 d1 g1
    have hcc5 := Lib.hid (Chg.trans hc4.out hcc fun i hi => .inl hi)
    have hLL5 := Lib.hid (Blk.keep hL4.out (hcc.block w1.heap.size (by rw [size_setCell]; exact hll4) hlr))
    have hl5 := hLL5.out.lt
    have hs5 := hcc5.out.size
    have d0 := hLL5.out.cell 0
    have d1 := hLL5.out.cell 3
    have g1 := hLL5.out.frozen 3
    have hr5 := Lib.hid (hrr.keep (w' := v5.setCell ⟨w1.heap.size, 3, none⟩ (.string z)) fun b t cs ht hB => hB.far (fun e => by
        have hL := hLL5.out
        simp only at e
        rw [← e] at hL
        rcases ht with rfl | rfl
        · exact Blk.ne_ hL hB (by decide) rfl
        · exact Blk.ne_ hL hB (by decide) rfl) _)
    have hc5 := Lib.hid (hcc5.out.setCell (p := ⟨w1.heap.size, 3, none⟩) (.inr (by simp only; omega)) (.string z))
    have hll5 : w1.heap.size < v5.heap.size := hl5
    obtain ⟨q5, u5, hRR5⟩ := hr5.out.rd
    have hS5 := Lib.hid (hSn.out _ _ _ hRR5 hc5.out)
    replace hRR5 := Lib.hid hRR5
    replace hy5 := Lib.hid hy5
    clear hrr hcc
    have hL5 : Blk (v5.setCell ⟨w1.heap.size, 3, none⟩ (.string z)) w1.heap.size 96 #[.int .i64 k, .string x, .string ⟨#[]⟩, .string z, .int .i64 0] := Blk.eq_cs (Blk.set_ hLL5.out 3 _) rfl
    replace hL5 := Lib.hid hL5
    have hT6 := Lib.hid (text_rs hS5.out rb s 32 _ hs (by decide) hr5.out)
    go_wp2_with fail
    refine (hT6.out).mono ?_; rintro e v6 ⟨y, rfl, hrr, hy6, hcc⟩
    clear d0 d1 g1
    have hcc6 := Lib.hid (Chg.trans hc5.out hcc fun i hi => .inl hi)
    have hLL6 := Lib.hid (Blk.keep hL5.out (hcc.block w1.heap.size (by rw [size_setCell]; exact hll5) hlr))
    have hl6 := hLL6.out.lt
    have hs6 := hcc6.out.size
    have d0 := hLL6.out.cell 0
    have d1 := hLL6.out.cell 2
    have g1 := hLL6.out.frozen 2
    have hr6 := Lib.hid (hrr.keep (w' := v6.setCell ⟨w1.heap.size, 2, none⟩ (.string y)) fun b t cs ht hB => hB.far (fun e => by
        have hL := hLL6.out
        simp only at e
        rw [← e] at hL
        rcases ht with rfl | rfl
        · exact Blk.ne_ hL hB (by decide) rfl
        · exact Blk.ne_ hL hB (by decide) rfl) _)
    have hc6 := Lib.hid (hcc6.out.setCell (p := ⟨w1.heap.size, 2, none⟩) (.inr (by simp only; omega)) (.string y))
    have hll6 : w1.heap.size < v6.heap.size := hl6
    obtain ⟨q6, u6, hRR6⟩ := hr6.out.rd
    have hS6 := Lib.hid (hSn.out _ _ _ hRR6 hc6.out)
    replace hRR6 := Lib.hid hRR6
    replace hy6 := Lib.hid hy6
    clear hrr hcc
    have hL6 : Blk (v6.setCell ⟨w1.heap.size, 2, none⟩ (.string y)) w1.heap.size 96 #[.int .i64 k, .string x, .string y, .string z, .int .i64 0] := Blk.eq_cs (Blk.set_ hLL6.out 2 _) rfl
    replace hL6 := Lib.hid hL6
    go_wp2_with fail
    refine code_world (fun W => GPre w W rb w1.heap.size s sv 96 #[.int .i64 k, .string x, .string y, .string z, .int .i64 0] (thenT s 32 (thenT s 32 (thenT s 16 (ofKind s p 4))))) ?_ fun W hW => ?_
    · exact ⟨hr6.out, hL6.out, by omega, hc6.out⟩
    clear d0 d1 g1 hT5 hL5 hLL5 hT6 hL6 hLL6
    have hO4 := hOW.out _ hW.chg
    have c0 := hO4.cell 1
    have f0 := hO4.frozen 1
    have hrb4 := hW.new
    have d0 := hW.blk.cell 0
    have d1 := hW.blk.cell 1
    have d2 := hW.blk.cell 2
    have d3 := hW.blk.cell 3
    have d4 := hW.blk.cell 4
    have hne4 : some ob ≠ (Value.slice A0 n0 p0).ownBlock := fun e => own_blk_ne (hoW.out _ hW.chg) hO4 (by decide) e.symm
    have hown4 := Lib.hid (fun W' (hW' : Below W.heap.size W W') => own_under (hoW.out _ hW.chg) hW')
    have hrd := Lib.hid (fun (W' : World) (hW' : W'.heap.size = W.heap.size) => (by have h1 := readsN W' 96 #[.int .i64 k, .string x, .string y, .string z, .int .i64 0] 5 rfl; rw [hW'] at h1; exact h1 : Reads (W'.alloc (.cells #[.int .i64 k, .string x, .string y, .string z, .int .i64 0] 96)) (W.heap.size + 1) 5 (some ⟨W.heap.size, 0, none⟩) 1 [.int .i64 k, .string x, .string y, .string z, .int .i64 0]))
    have hO4' := Lib.hid (fun W' (hW' : Below W.heap.size W W') => (hO4.below hW' hO4.lt : Blk W' ob 62 #[tv, .slice A0 n0 p0]))
    have hszW := hW.chg.size
    have obW := hO4.lt
    have lbW := hW.blk.lt
    replace hO4 := Lib.hid hO4
    replace hW := Lib.hid hW
    replace hne4 := Lib.hid hne4
    clear hT2 hL2 hL3
    go_region_law (refine step_append_any _ rfl (.tmp 57) (.tmp 59) 60 rfl B 96 i0 (.agg #[.int .i64 0, .string ⟨#[]⟩, .string ⟨#[]⟩, .string ⟨#[]⟩, .int .i64 0]) 5 64 Tryz.underlying60 hi hz0 hz1 hz2 rfl (by decide) (.slice A0 n0 p0) n xs (by simp [Act.eval]) (hown4.out _ (by (repeat first | exact Below.refl _ _ | assumption | refine Below.drew ?_ | refine below_drewN ?_ _ | refine Below.more_ ?_ _ | refine Below.setCell ?_ (by first | exact Nat.le_refl _ | (simp; done) | (simp; omega)) _))) (W.heap.size + 1) (some ⟨W.heap.size, 0, none⟩) 1 1 [.int .i64 k, .string x, .string y, .string z, .int .i64 0] (by simp [Act.eval]) (hrd.out _ (by simp)) (by simp [Value.oneCell']) (by unfold maxLen; omega) (by omega) (by simp; omega) ?_; intro v' w5 hown5 hgrow hloc; obtain ⟨gg, cp, rfl⟩ := ownSucc hown5; have B5 := Blk.grown (hO4'.out _ (by (repeat first | exact Below.refl _ _ | assumption | refine Below.drew ?_ | refine below_drewN ?_ _ | refine Below.more_ ?_ _ | refine Below.setCell ?_ (by first | exact Nat.le_refl _ | (simp; done) | (simp; omega)) _))) hgrow hne4.out; have c0' := B5.cell 1; have f0' := B5.frozen 1; replace B5 := Lib.hid B5; replace hown5 := Lib.hid hown5; replace hgrow := Lib.hid hgrow; replace hloc := Lib.hid hloc)
    all_goals
      go_wp2_with fail
      have hR : ∀ w6, Chg (fun k => k = ob) w5 w6 → Blk w6 ob 62 #[tv, .slice (some ⟨gg, 0, none⟩) (n + 1) cp] → _ := fun w6 hc hB => hfin.out W w5 w6 _ _ _ [.int .i64 k, .string x, .string y, .string z, .int .i64 0] _ hW.out _ (by (repeat first | exact Below.refl _ _ | assumption | refine Below.drew ?_ | refine below_drewN ?_ _ | refine Below.more_ ?_ _ | refine Below.setCell ?_ (by first | exact Nat.le_refl _ | (simp; done) | (simp; omega)) _)) hown5.out hgrow.out hloc.out hB hc
      refine bodyPost_end (v := .tuple #[]) (results_none (by kernel_rfl) _ _ _) rfl ⟨rfl, k, x, y, z, 0, by omega, ⟨hk1.out, hk0.out, hx'.out, fun h0 => absurd h0 (by have := hk.out; omega), fun h0 => absurd h0 (by have := hk.out; omega), fun _ => hy5.out, fun _ => hy6.out, fun _ h0 => absurd hk.out h0, fun h0 => absurd hk.out h0, fun _ => rfl⟩, ?_⟩
      exact (show sRes s p k = thenT s 32 (thenT s 32 (thenT s 16 (ofKind s p 4))) from by unfold sRes; rw [if_neg (by have := hk.out; omega), if_neg (by have := hk.out; omega), if_pos hk.out]).symm ▸ hR _ (by (repeat first | exact Chg.refl _ _ | assumption | refine Chg.drew ?_ | refine Chg.drewN ?_ _ | refine Chg.alloc ?_ _ | refine Chg.setCell ?_ (by first | (left; rfl) | (left; assumption) | (right; exact Nat.le_refl _) | (right; simp; done) | (right; simp; omega)) _ | refine Chg.setBlock ?_ (by first | (left; rfl) | (left; assumption) | (right; exact Nat.le_refl _) | (right; simp; done) | (right; simp; omega)) _)) (Blk.eq_cs (B5.out.set_ 1 _) rfl)
  · have kb1 : ((k : Int) == 1) = false := beq_eq_false_iff_ne.2 (by omega)
    have kb3 : ((k : Int) == 3) = false := beq_eq_false_iff_ne.2 (by omega)
    have kb4 : ((k : Int) == 4) = false := beq_eq_false_iff_ne.2 (by omega)
    replace hk := Lib.hid hk
    replace hk' := Lib.hid hk'
    replace hk'' := Lib.hid hk''
    replace hr4 := Lib.hid hr4
    replace hc4 := Lib.hid hc4
    replace hL4 := Lib.hid hL4
    have hll4 : w1.heap.size < w3.heap.size := hl3
    go_wp2_with fail
    refine code_world (fun W => GPre w W rb w1.heap.size s sv 96 #[.int .i64 k, .string x, .string ⟨#[]⟩, .string ⟨#[]⟩, .int .i64 0] (thenT s 16 (ofKind s p 4))) ?_ fun W hW => ?_
    · exact ⟨hr4.out, hL4.out, by omega, hc4.out⟩
    clear d0 d1 g1
    have hO4 := hOW.out _ hW.chg
    have c0 := hO4.cell 1
    have f0 := hO4.frozen 1
    have hrb4 := hW.new
    have d0 := hW.blk.cell 0
    have d1 := hW.blk.cell 1
    have d2 := hW.blk.cell 2
    have d3 := hW.blk.cell 3
    have d4 := hW.blk.cell 4
    have hne4 : some ob ≠ (Value.slice A0 n0 p0).ownBlock := fun e => own_blk_ne (hoW.out _ hW.chg) hO4 (by decide) e.symm
    have hown4 := Lib.hid (fun W' (hW' : Below W.heap.size W W') => own_under (hoW.out _ hW.chg) hW')
    have hrd := Lib.hid (fun (W' : World) (hW' : W'.heap.size = W.heap.size) => (by have h1 := readsN W' 96 #[.int .i64 k, .string x, .string ⟨#[]⟩, .string ⟨#[]⟩, .int .i64 0] 5 rfl; rw [hW'] at h1; exact h1 : Reads (W'.alloc (.cells #[.int .i64 k, .string x, .string ⟨#[]⟩, .string ⟨#[]⟩, .int .i64 0] 96)) (W.heap.size + 1) 5 (some ⟨W.heap.size, 0, none⟩) 1 [.int .i64 k, .string x, .string ⟨#[]⟩, .string ⟨#[]⟩, .int .i64 0]))
    have hO4' := Lib.hid (fun W' (hW' : Below W.heap.size W W') => (hO4.below hW' hO4.lt : Blk W' ob 62 #[tv, .slice A0 n0 p0]))
    have hszW := hW.chg.size
    have obW := hO4.lt
    have lbW := hW.blk.lt
    replace hO4 := Lib.hid hO4
    replace hW := Lib.hid hW
    replace hne4 := Lib.hid hne4
    clear hT2 hL2 hL3
    go_region_law (refine step_append_any _ rfl (.tmp 57) (.tmp 59) 60 rfl B 96 i0 (.agg #[.int .i64 0, .string ⟨#[]⟩, .string ⟨#[]⟩, .string ⟨#[]⟩, .int .i64 0]) 5 64 Tryz.underlying60 hi hz0 hz1 hz2 rfl (by decide) (.slice A0 n0 p0) n xs (by simp [Act.eval]) (hown4.out _ (by (repeat first | exact Below.refl _ _ | assumption | refine Below.drew ?_ | refine below_drewN ?_ _ | refine Below.more_ ?_ _ | refine Below.setCell ?_ (by first | exact Nat.le_refl _ | (simp; done) | (simp; omega)) _))) (W.heap.size + 1) (some ⟨W.heap.size, 0, none⟩) 1 1 [.int .i64 k, .string x, .string ⟨#[]⟩, .string ⟨#[]⟩, .int .i64 0] (by simp [Act.eval]) (hrd.out _ (by simp)) (by simp [Value.oneCell']) (by unfold maxLen; omega) (by omega) (by simp; omega) ?_; intro v' w5 hown5 hgrow hloc; obtain ⟨gg, cp, rfl⟩ := ownSucc hown5; have B5 := Blk.grown (hO4'.out _ (by (repeat first | exact Below.refl _ _ | assumption | refine Below.drew ?_ | refine below_drewN ?_ _ | refine Below.more_ ?_ _ | refine Below.setCell ?_ (by first | exact Nat.le_refl _ | (simp; done) | (simp; omega)) _))) hgrow hne4.out; have c0' := B5.cell 1; have f0' := B5.frozen 1; replace B5 := Lib.hid B5; replace hown5 := Lib.hid hown5; replace hgrow := Lib.hid hgrow; replace hloc := Lib.hid hloc)
    all_goals
      go_wp2_with fail
      have hR : ∀ w6, Chg (fun k => k = ob) w5 w6 → Blk w6 ob 62 #[tv, .slice (some ⟨gg, 0, none⟩) (n + 1) cp] → _ := fun w6 hc hB => hfin.out W w5 w6 _ _ _ [.int .i64 k, .string x, .string ⟨#[]⟩, .string ⟨#[]⟩, .int .i64 0] _ hW.out _ (by (repeat first | exact Below.refl _ _ | assumption | refine Below.drew ?_ | refine below_drewN ?_ _ | refine Below.more_ ?_ _ | refine Below.setCell ?_ (by first | exact Nat.le_refl _ | (simp; done) | (simp; omega)) _)) hown5.out hgrow.out hloc.out hB hc
      refine bodyPost_end (v := .tuple #[]) (results_none (by kernel_rfl) _ _ _) rfl ⟨rfl, k, x, ⟨#[]⟩, ⟨#[]⟩, 0, by omega, ⟨hk1.out, hk0.out, hx'.out, fun h0 => absurd h0 hk.out, fun h0 => absurd h0 hk'.out, fun h0 => absurd h0 hk''.out, fun h0 => absurd h0 hk''.out, fun _ _ => rfl, fun _ => rfl, fun _ => rfl⟩, ?_⟩
      exact (show sRes s p k = thenT s 16 (ofKind s p 4) from by unfold sRes; rw [if_neg hk.out, if_neg hk'.out, if_neg hk''.out]).symm ▸ hR _ (by (repeat first | exact Chg.refl _ _ | assumption | refine Chg.drew ?_ | refine Chg.drewN ?_ _ | refine Chg.alloc ?_ _ | refine Chg.setCell ?_ (by first | (left; rfl) | (left; assumption) | (right; exact Nat.le_refl _) | (right; simp; done) | (right; simp; omega)) _ | refine Chg.setBlock ?_ (by first | (left; rfl) | (left; assumption) | (right; exact Nat.le_refl _) | (right; simp; done) | (right; simp; omega)) _)) (Blk.eq_cs (B5.out.set_ 1 _) rfl)
end Go.Proofs.YtpkkjoiglemlgaaGreatDoor
