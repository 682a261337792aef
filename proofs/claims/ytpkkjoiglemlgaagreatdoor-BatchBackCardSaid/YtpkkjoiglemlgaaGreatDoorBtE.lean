import Derived.Test.YtpkkjoiglemlgaaGreatDoorOpP
import Derived.Test.YtpkkjoiglemlgaaGreatDoorDigS
import Derived.Test.YtpkkjoiglemlgaaGreatDoorFail
import Derived.Test.YtpkkjoiglemlgaaGreatDoorIdO
import Derived.Test.YtpkkjoiglemlgaaGreatDoorOpU
/-
  Batches plainly (layer 13): a number between two others, a name, an entry, a row of entries, a batch. No program in sight. No condition.
-/
namespace Go.Proofs.YtpkkjoiglemlgaaGreatDoor
set_option linter.unusedVariables false

structure Ent where
  id : Int × Int
  op : OOp
/-- A number between two others. -/
def nmb (s : ByteArray) (p : Int) (lo hi : Nat) : Except Int (Nat × Int) :=
  if (tk s p).2.2 ≠ 0 then .error (tk s p).2.2 else if (tk s p).1 < lo ∨ hi < (tk s p).1 then .error 4 else .ok ((tk s p).1, (tk s p).2.1)
/-- A name at a place: it and the place behind; or a code and its place. -/
def bName (s : ByteArray) (p : Int) : Except (Int × Int) ((Int × Int) × Int) := match nmb s p 0 255 with
  | .error c => .error (c, p)
  | .ok a => match nmb s a.2 1 4294967296 with
    | .error c => .error (c, a.2)
    | .ok b => .ok (((a.1 : Int), (b.1 : Int)), b.2)
/-- An entry at a place, behind some names: a code and its places. -/
def bEnt (s : ByteArray) (p : Int) (ids : List (Int × Int)) : Except (Int × List Int) (Ent × Int) := match bName s p with
  | .error e => .error (e.1, [e.2])
  | .ok x => if x.1 ∈ ids then .error (6, [p]) else match pTake s x.2 with
    | .error e => .error (e.1, if e.2.2 < 0 then [e.2.1] else [e.2.2, e.2.1])
    | .ok o => .ok (⟨x.1, o.1⟩, o.2)
def bRow (s : ByteArray) : Nat → Nat → Int → List Ent → Except (Int × List Int) (List Ent × Int)
  | 0, _, p, out => .ok (out, p)
  | k + 1, i, p, out => match bEnt s p (out.map (·.id)) with
    | .error e => .error (e.1, (i : Int) :: e.2)
    | .ok x => bRow s k (i + 1) x.2 (out ++ [x.1])
def bParse (s : ByteArray) : Except (Int × List Int) (List Ent) :=
  if (tk s 0).2.2 ≠ 0 then .error ((tk s 0).2.2, [0])
  else if 16 < (tk s 0).1 then .error (3, [0])
  else match bRow s (tk s 0).1 0 (tk s 0).2.1 [] with
    | .error e => .error e
    | .ok x => if x.2 < s.size then .error (3, [x.2]) else .ok x.1
def bOk (c : Int) : Prop := c = 1 ∨ c = 2 ∨ c = 3 ∨ c = 4 ∨ c = 5 ∨ c = 6
theorem bOk_of {c : Int} (h : cOk c) : bOk c := by unfold cOk at h; unfold bOk; omega
theorem nmb_ok {s : ByteArray} {p : Int} {lo hi : Nat} {c : Int} (h : nmb s p lo hi = .error c) : cOk c := by
  unfold nmb at h
  split at h
  · rename_i h1
    injection h with h
    subst h
    exact tk_cOk h1
  · split at h
    · injection h with h
      subst h
      exact .inr (.inr (.inr (.inl rfl)))
    · cases h
theorem nmb_in {s : ByteArray} {p : Int} {lo hi : Nat} {x : Nat × Int} (h : nmb s p lo hi = .ok x) : lo ≤ x.1 ∧ x.1 ≤ hi := by
  unfold nmb at h
  split at h
  · cases h
  · split at h
    · cases h
    · injection h with h
      subst h
      simp only
      omega
theorem bName_ok {s : ByteArray} {p : Int} {e : Int × Int} (h : bName s p = .error e) : cOk e.1 := by
  unfold bName at h
  split at h
  · rename_i c hc
    injection h with h
    subst h
    exact nmb_ok hc
  · split at h
    · rename_i c hc
      injection h with h
      subst h
      exact nmb_ok hc
    · cases h
theorem bName_in {s : ByteArray} {p : Int} {x : (Int × Int) × Int} (h : bName s p = .ok x) : (0 ≤ x.1.1 ∧ x.1.1 ≤ 255) ∧ 1 ≤ x.1.2 ∧ x.1.2 ≤ 4294967296 := by
  unfold bName at h
  split at h
  · cases h
  · rename_i a ha
    split at h
    · cases h
    · rename_i b hb
      injection h with h
      subst h
      have h1 := nmb_in ha
      have h2 := nmb_in hb
      simp only
      omega
theorem bEnt_ok {s : ByteArray} {p : Int} {ids : List (Int × Int)} {e : Int × List Int} (h : bEnt s p ids = .error e) : bOk e.1 := by
  unfold bEnt at h
  split at h
  · rename_i e1 he
    injection h with h
    subst h
    exact bOk_of (bName_ok he)
  · split at h
    · injection h with h
      subst h
      exact .inr (.inr (.inr (.inr (.inr rfl))))
    · split at h
      · rename_i e1 he
        injection h with h
        subst h
        exact bOk_of (pTake_cOk he).1
      · cases h
theorem bEnt_id {s : ByteArray} {p : Int} {ids : List (Int × Int)} {x : Ent × Int} (h : bEnt s p ids = .ok x) : ((0 ≤ x.1.id.1 ∧ x.1.id.1 ≤ 255) ∧ 1 ≤ x.1.id.2 ∧ x.1.id.2 ≤ 4294967296) ∧ x.1.id ∉ ids := by
  unfold bEnt at h
  split at h
  · cases h
  · rename_i y hy
    split at h
    · cases h
    · rename_i hn
      split at h
      · cases h
      · injection h with h
        subst h
        exact ⟨bName_in hy, hn⟩
theorem bRow_ok {s : ByteArray} : ∀ (k i : Nat) (p : Int) (out : List Ent) (e : Int × List Int), bRow s k i p out = .error e → bOk e.1
  | 0, i, p, out, e, h => by rw [bRow] at h; cases h
  | k + 1, i, p, out, e, h => by
    rw [bRow] at h
    split at h
    · rename_i e1 he
      injection h with h
      subst h
      have := bEnt_ok he
      exact this
    · exact bRow_ok k (i + 1) _ _ e h
theorem bParse_ok {s : ByteArray} {e : Int × List Int} (h : bParse s = .error e) : bOk e.1 := by
  unfold bParse at h
  split at h
  · rename_i h1
    injection h with h
    subst h
    exact bOk_of (tk_cOk h1)
  · split at h
    · injection h with h
      subst h
      exact .inr (.inr (.inl rfl))
    · split at h
      · rename_i e1 he
        injection h with h
        subst h
        exact bRow_ok _ _ _ _ _ he
      · split at h
        · injection h with h
          subst h
          exact .inr (.inr (.inl rfl))
        · cases h
theorem bRow_len {s : ByteArray} : ∀ (k i : Nat) (p : Int) (out : List Ent) (x : List Ent × Int), bRow s k i p out = .ok x → x.1.length = out.length + k
  | 0, i, p, out, x, h => by rw [bRow] at h; injection h with h; subst h; rfl
  | k + 1, i, p, out, x, h => by
    rw [bRow] at h
    split at h
    · cases h
    · have := bRow_len k (i + 1) _ _ x h
      rw [this, List.length_append, List.length_singleton]
      omega
end Go.Proofs.YtpkkjoiglemlgaaGreatDoor

/-
  batch.number; the document's name (layer 13). Where the sentinels lie.
-/
namespace Go.Proofs.YtpkkjoiglemlgaaGreatDoor
set_option linter.unusedVariables false
open Go.ChangeShapes Go.WideShapes Go.ChangeAt Go.RowKit Go.Extern.Stop Go.Stop Go.Extern

theorem tkn_lt (s : ByteArray) (p : Int) : (tk s p).1 < 18446744073709551616 := by
  by_cases h : (tk s p).2.2 = 0
  · obtain ⟨_, _, _, _, h4⟩ := seg_tk h
    exact h4
  · unfold tk at h ⊢
    split
    · decide
    · split
      · rename_i h1 h2
        rw [if_neg h1, if_pos h2] at h
        exact absurd rfl h
      · exact show (0 : Nat) < 18446744073709551616 by decide
/-- What batch.number answers. -/
def NbOut (w : World) (sv : Nat → Addr) (p : Int) (r : Except Int (Nat × Int)) (n nx err : Value) : Prop := match r with
  | .ok x => n = .int .i64 x.1 ∧ nx = .int .i64 x.2 ∧ err = .nilIface
  | .error c => n = .int .i64 0 ∧ nx = .int .i64 0 ∧ ErrIs w sv err [p] (sIdx c)
set_option maxHeartbeats 1000000 in
set_option maxRecDepth 100000 in
theorem number_any {w : World} {sv : Nat → Addr} (S : Sent w sv) (s : ByteArray) (p : Int) (lo hi : Nat) (hs : s.size ≤ 1000000) (hh : hi ≤ 9223372036854775807) :
    Calls Tryz.prog 105 #[.string s, .int .i64 p, .int .u64 lo, .int .u64 hi] w fun e w' => ∃ n nx err, e = .returned (.tuple #[n, nx, err]) ∧ NbOut w' sv p (nmb s p lo hi) n nx err ∧ Below w.heap.size w w' := by
  have hT := take_any S s p hs
  have hN4 := fun W (h : Below w.heap.size w W) => new_any (S.below h) 4
  have hA := fun W (h : ErrIs W sv (newV sv 4) [] (sIdx 4)) => at_any (w := W) (sv := sv) p (newV sv 4) [] (sIdx 4) h
  have hL4 : ∀ W, ErrIs W sv (newV sv 4) [] (sIdx 4) := fun W => ⟨by decide, rfl⟩
  have hq : nmb s p lo hi = if (tk s p).2.2 ≠ 0 then .error (tk s p).2.2 else if (tk s p).1 < lo ∨ hi < (tk s p).1 then .error 4 else .ok ((tk s p).1, (tk s p).2.1) := rfl
  generalize nmb s p lo hi = R at *
  generalize tk s p = t at *
  obtain ⟨n, nx, c⟩ := t
  simp only at hT hq
  replace hT := Lib.hid hT
  replace hN4 := Lib.hid hN4
  replace hA := Lib.hid hA
  replace hL4 := Lib.hid hL4
  clear S
  by_cases c0 : c = 0
  · subst c0
    rw [if_neg (by decide)] at hq
    by_cases h1 : n < lo
    · rw [if_pos (.inl h1)] at hq
      subst hq
      have d1 : decide ((n : Int) < (lo : Int)) = true := decide_eq_true (by omega)
      go_enter Tryz.func105, Tryz.ntmps105
      go_wp2_with fail
      refine (hT.out).mono ?_; rintro e w1 ⟨v, rfl, hv, hb1⟩
      obtain ⟨_, rfl⟩ := hv.resolve_right (fun h => h.1 rfl)
      replace hb1 := Lib.hid hb1
      clear hv
      go_wp2_with fail
      refine (hN4.out _ hb1.out).mono ?_; rintro e w2 ⟨rfl, rfl⟩
      go_wp2_with fail
      refine (hA.out _ (hL4.out _)).mono ?_; rintro e w5 ⟨v, rfl, hv, hb⟩
      obtain ⟨ty, u, rfl⟩ := hv.iface
      replace hv := Lib.hid hv
      replace hb := Lib.hid hb
      go_wp2_with fail
      go_ret3
      exact ⟨_, _, _, rfl, ⟨rfl, rfl, hv.out⟩, Below.next_ hb1.out hb.out⟩
    have d1 : decide ((n : Int) < (lo : Int)) = false := decide_eq_false (by omega)
    by_cases h2 : hi < n
    · rw [if_pos (.inr h2)] at hq
      subst hq
      have d2 : decide ((hi : Int) < (n : Int)) = true := decide_eq_true (by omega)
      go_enter Tryz.func105, Tryz.ntmps105
      go_wp2_with fail
      refine (hT.out).mono ?_; rintro e w1 ⟨v, rfl, hv, hb1⟩
      obtain ⟨_, rfl⟩ := hv.resolve_right (fun h => h.1 rfl)
      replace hb1 := Lib.hid hb1
      clear hv
      go_wp2_with fail
      refine (hN4.out _ hb1.out).mono ?_; rintro e w2 ⟨rfl, rfl⟩
      go_wp2_with fail
      refine (hA.out _ (hL4.out _)).mono ?_; rintro e w5 ⟨v, rfl, hv, hb⟩
      obtain ⟨ty, u, rfl⟩ := hv.iface
      replace hv := Lib.hid hv
      replace hb := Lib.hid hb
      go_wp2_with fail
      go_ret3
      exact ⟨_, _, _, rfl, ⟨rfl, rfl, hv.out⟩, Below.next_ hb1.out hb.out⟩
    have d2 : decide ((hi : Int) < (n : Int)) = false := decide_eq_false (by omega)
    rw [if_neg (by omega)] at hq
    subst hq
    have hw : IntKind.i64.wrap (n : Int) = (n : Int) := by rw [IntKind.wrap_i64]; omega
    go_enter Tryz.func105, Tryz.ntmps105
    go_wp2_with fail
    refine (hT.out).mono ?_; rintro e w1 ⟨v, rfl, hv, hb1⟩
    obtain ⟨_, rfl⟩ := hv.resolve_right (fun h => h.1 rfl)
    replace hb1 := Lib.hid hb1
    clear hv
    go_wp2_with fail
    go_ret3
    exact ⟨_, _, _, rfl, ⟨rfl, rfl, rfl⟩, hb1.out⟩
  · rw [if_pos c0] at hq
    subst hq
    go_enter Tryz.func105, Tryz.ntmps105
    go_wp2_with fail
    refine (hT.out).mono ?_; rintro e w1 ⟨v, rfl, hv, hb1⟩
    obtain ⟨_, hv2⟩ := hv.resolve_left (fun h => c0 h.1)
    obtain ⟨ty, u, rfl⟩ := hv2.iface
    replace hv2 := Lib.hid hv2
    replace hb1 := Lib.hid hb1
    clear hv
    go_wp2_with fail
    go_ret3
    exact ⟨_, _, _, rfl, ⟨rfl, rfl, hv2.out⟩, hb1.out⟩
/-- What the document's name answers. -/
def nmTold (r : Except (Int × Int) ((Int × Int) × Int)) : Value := match r with
  | .ok x => .tuple #[.agg #[.int .i64 x.1.1, .int .i64 x.1.2], .int .i64 x.2, .int .i64 0, .int .i64 0]
  | .error e => .tuple #[.agg #[.int .i64 0, .int .i64 0], .int .i64 0, .int .i64 e.1, .int .i64 e.2]
set_option maxHeartbeats 2000000 in
set_option maxRecDepth 100000 in
theorem refName_any (s : ByteArray) (p : Int) (hs : s.size ≤ 1000000) (w : World) :
    Calls Tryz.prog 48 #[.string s, .int .i64 p] w fun e w' => e = .returned (nmTold (bName s p)) ∧ Below w.heap.size w w' := by
  have hT := fun W q => refTake_any W s q hs
  have hW1 : Below w.heap.size w (w.alloc (.cells #[.int .i64 0, .int .i64 0] 23)) := (Below.refl _ _).alloc (Nat.le_refl _) _
  have B1 := Blk.new w 23 #[.int .i64 0, .int .i64 0]
  have x0 := B1.cell 0
  have x1 := B1.cell 1
  have f0 := B1.frozen 0
  have f1 := B1.frozen 1
  replace hW1 := Lib.hid hW1
  replace B1 := Lib.hid B1
  have hq : bName s p = match nmb s p 0 255 with
    | .error c => .error (c, p)
    | .ok a => match nmb s a.2 1 4294967296 with
      | .error c => .error (c, a.2)
      | .ok b => .ok (((a.1 : Int), (b.1 : Int)), b.2) := rfl
  generalize bName s p = R at *
  have hT1 := fun W => hT W p
  have hlt := tkn_lt s p
  unfold nmb at hq
  generalize tk s p = t at *
  obtain ⟨n, nx, c⟩ := t
  have hT2 := fun W => hT W nx
  have hlt2 := tkn_lt s nx
  clear hT
  simp only at hT1 hq hlt
  by_cases c0 : c = 0
  · subst c0
    rw [if_neg (by decide)] at hq
    by_cases h1 : 255 < n
    · rw [if_pos (.inr h1)] at hq
      simp only at hq
      have d1 : decide ((255 : Int) < (n : Int)) = true := decide_eq_true (by omega)
      replace hT1 := Lib.hid hT1
      clear hT2
      subst hq
      go_enter Tryz.func48, Tryz.ntmps48
      go_wp2_with fail
      refine (hT1.out _).mono ?_; rintro e w1 ⟨rfl, rfl⟩
      go_wp2_with fail
      refine worldD (α := fun W' => bodyPost _ _ _ _ _ W') (fun W => Blk W w.heap.size 23 #[.int .i64 0, .int .i64 0] ∧ Below w.heap.size w W) ?_ fun W hW => ?_
      · exact ⟨Blk.new _ _ _, (Below.refl _ _).alloc (Nat.le_refl _) _⟩
      obtain ⟨k1, k3⟩ := hW
      have z0 := k1.cell 0
      have z1 := k1.cell 1
      exact bodyPost_ret (v := nmTold (.error (4, p))) (by simp [nmTold, results, Tryz.results48, go_sem, z0, z1]) rfl ⟨rfl, k3⟩
    have d1 : decide ((255 : Int) < (n : Int)) = false := decide_eq_false (by omega)
    have hw1 : IntKind.i64.wrap (n : Int) = (n : Int) := by rw [IntKind.wrap_i64]; omega
    rw [if_neg (by omega)] at hq
    simp only at hq
    generalize tk s nx = t2 at *
    obtain ⟨n2, nx2, c2⟩ := t2
    simp only at hT2 hq hlt2
    replace hT1 := Lib.hid hT1
    replace hT2 := Lib.hid hT2
    by_cases c20 : c2 = 0
    · subst c20
      rw [if_neg (by decide)] at hq
      by_cases h2 : n2 < 1
      · rw [if_pos (.inl h2)] at hq
        simp only at hq
        have d2 : decide ((n2 : Int) < 1) = true := decide_eq_true (by omega)
        subst hq
        go_enter Tryz.func48, Tryz.ntmps48
        go_wp2_with fail
        refine (hT1.out _).mono ?_; rintro e w1 ⟨rfl, rfl⟩
        go_wp2_with fail
        refine (hT2.out _).mono ?_; rintro e w1 ⟨rfl, rfl⟩
        go_wp2_with fail
        refine worldD (α := fun W' => bodyPost _ _ _ _ _ W') (fun W => Blk W w.heap.size 23 #[.int .i64 0, .int .i64 0] ∧ Below w.heap.size w W) ?_ fun W hW => ?_
        · exact ⟨Blk.new _ _ _, (Below.refl _ _).alloc (Nat.le_refl _) _⟩
        obtain ⟨k1, k3⟩ := hW
        have z0 := k1.cell 0
        have z1 := k1.cell 1
        exact bodyPost_ret (v := nmTold (.error (4, nx))) (by simp [nmTold, results, Tryz.results48, go_sem, z0, z1]) rfl ⟨rfl, k3⟩
      have d2 : decide ((n2 : Int) < 1) = false := decide_eq_false (by omega)
      by_cases h3 : 4294967296 < n2
      · rw [if_pos (.inr h3)] at hq
        simp only at hq
        have d3 : decide ((4294967296 : Int) < (n2 : Int)) = true := decide_eq_true (by omega)
        subst hq
        go_enter Tryz.func48, Tryz.ntmps48
        go_wp2_with fail
        refine (hT1.out _).mono ?_; rintro e w1 ⟨rfl, rfl⟩
        go_wp2_with fail
        refine (hT2.out _).mono ?_; rintro e w1 ⟨rfl, rfl⟩
        go_wp2_with fail
        refine worldD (α := fun W' => bodyPost _ _ _ _ _ W') (fun W => Blk W w.heap.size 23 #[.int .i64 0, .int .i64 0] ∧ Below w.heap.size w W) ?_ fun W hW => ?_
        · exact ⟨Blk.new _ _ _, (Below.refl _ _).alloc (Nat.le_refl _) _⟩
        obtain ⟨k1, k3⟩ := hW
        have z0 := k1.cell 0
        have z1 := k1.cell 1
        exact bodyPost_ret (v := nmTold (.error (4, nx))) (by simp [nmTold, results, Tryz.results48, go_sem, z0, z1]) rfl ⟨rfl, k3⟩
      have d3 : decide ((4294967296 : Int) < (n2 : Int)) = false := decide_eq_false (by omega)
      have hw2 : IntKind.i64.wrap (n2 : Int) = (n2 : Int) := by rw [IntKind.wrap_i64]; omega
      rw [if_neg (by omega)] at hq
      simp only at hq
      subst hq
      go_enter Tryz.func48, Tryz.ntmps48
      go_wp2_with fail
      refine (hT1.out _).mono ?_; rintro e w1 ⟨rfl, rfl⟩
      go_wp2_with fail
      refine (hT2.out _).mono ?_; rintro e w1 ⟨rfl, rfl⟩
      go_wp2_with fail
      refine worldD (α := fun W' => bodyPost _ _ _ _ _ W') (fun W => Blk W w.heap.size 23 #[.int .i64 n, .int .i64 n2] ∧ Below w.heap.size w W) ?_ fun W hW => ?_
      · exact ⟨Blk.new _ _ _, (Below.refl _ _).alloc (Nat.le_refl _) _⟩
      obtain ⟨k1, k3⟩ := hW
      have z0 := k1.cell 0
      have z1 := k1.cell 1
      exact bodyPost_ret (v := nmTold (.ok (((n : Int), (n2 : Int)), nx2))) (by simp [nmTold, results, Tryz.results48, go_sem, z0, z1]) rfl ⟨rfl, k3⟩
    · rw [if_pos c20] at hq
      simp only at hq
      have e2 : (c2 == 0) = false := beq_eq_false_iff_ne.2 c20
      subst hq
      go_enter Tryz.func48, Tryz.ntmps48
      go_wp2_with fail
      refine (hT1.out _).mono ?_; rintro e w1 ⟨rfl, rfl⟩
      go_wp2_with fail
      refine (hT2.out _).mono ?_; rintro e w1 ⟨rfl, rfl⟩
      go_wp2_with fail
      refine worldD (α := fun W' => bodyPost _ _ _ _ _ W') (fun W => Blk W w.heap.size 23 #[.int .i64 0, .int .i64 0] ∧ Below w.heap.size w W) ?_ fun W hW => ?_
      · exact ⟨Blk.new _ _ _, (Below.refl _ _).alloc (Nat.le_refl _) _⟩
      obtain ⟨k1, k3⟩ := hW
      have z0 := k1.cell 0
      have z1 := k1.cell 1
      exact bodyPost_ret (v := nmTold (.error (c2, nx))) (by simp [nmTold, results, Tryz.results48, go_sem, z0, z1]) rfl ⟨rfl, k3⟩
  · rw [if_pos c0] at hq
    simp only at hq
    have e2 : (c == 0) = false := beq_eq_false_iff_ne.2 c0
    replace hT1 := Lib.hid hT1
    clear hT2
    subst hq
    go_enter Tryz.func48, Tryz.ntmps48
    go_wp2_with fail
    refine (hT1.out _).mono ?_; rintro e w1 ⟨rfl, rfl⟩
    go_wp2_with fail
    refine worldD (α := fun W' => bodyPost _ _ _ _ _ W') (fun W => Blk W w.heap.size 23 #[.int .i64 0, .int .i64 0] ∧ Below w.heap.size w W) ?_ fun W hW => ?_
    · exact ⟨Blk.new _ _ _, (Below.refl _ _).alloc (Nat.le_refl _) _⟩
    obtain ⟨k1, k3⟩ := hW
    have z0 := k1.cell 0
    have z1 := k1.cell 1
    exact bodyPost_ret (v := nmTold (.error (c, p))) (by simp [nmTold, results, Tryz.results48, go_sem, z0, z1]) rfl ⟨rfl, k3⟩
end Go.Proofs.YtpkkjoiglemlgaaGreatDoor

/-
  A set of names whose memory has no blocks of other types; batch.name (layer 13). Where the sentinels lie.
-/
namespace Go.Proofs.YtpkkjoiglemlgaaGreatDoor
set_option linter.unusedVariables false
open Go.ChangeShapes Go.WideShapes Go.ChangeAt Go.RowKit Go.Extern.Stop Go.Stop Go.Extern

/-- A set that a call has made; of its blocks that are cells all are of the set's type. -/
def TSet (w0 w : World) (b : Nat) (c : Int) (ids : List (Int × Int)) : Prop := ∃ F, SetIs w b F c ids ∧ (∀ k, F k → w0.heap.size ≤ k) ∧ ∀ k t cs, F k → Blk w k t cs → t = 113
theorem SetIs.tset {w0 w : World} {b : Nat} {F : Nat → Prop} {c : Int} {ids : List (Int × Int)} (h : SetIs w b F c ids) (hF : ∀ k, F k → w0.heap.size ≤ k) : TSet w0 w b c ids := by
  have hu : ∀ {cs0 : Array Value} (_ : Blk w b 113 cs0) (t : TypeId) (cs : Array Value), Blk w b t cs → t = 113 := fun hB t cs hB2 => by
    by_cases he : t = 113
    · exact he
    · exact absurd rfl (Blk.ne_ hB2 hB he)
  rcases h.is with ⟨hB, rfl⟩ | ⟨m, l, hm, hne, hB, hM, e, hc⟩
  · refine ⟨fun k => k = b, ⟨fun k hk => by subst hk; exact hB.lt, rfl, .inl ⟨hB, rfl⟩⟩, fun k hk => by subst hk; exact hF _ h.hb, fun k t cs hk hB2 => by subst hk; exact hu hB t cs hB2⟩
  · refine ⟨fun k => k = b ∨ k = m, ⟨fun k hk => ?_, .inl rfl, .inr ⟨m, l, .inr rfl, hne, hB, hM, e, hc⟩⟩, fun k hk => ?_, fun k t cs hk hB2 => ?_⟩
    · rcases hk with rfl | rfl
      · exact hB.lt
      · exact hM.lt
    · rcases hk with rfl | rfl
      · exact hF _ h.hb
      · exact hF _ hm
    · rcases hk with rfl | rfl
      · exact hu hB t cs hB2
      · obtain ⟨es, ck, h1, _⟩ := hM.some_
        have h2 := h1.symm.trans hB2
        injection h2 with h2
        cases h2
theorem TSet.keep {w0 w w' : World} {b : Nat} {c : Int} {ids : List (Int × Int)} (h : TSet w0 w b c ids) (hs : w.heap.size ≤ w'.heap.size) (hk : ∀ k, k < w.heap.size → (∀ t cs, Blk w k t cs → t = 113) → w'.heap[k]? = w.heap[k]?) : TSet w0 w' b c ids := by
  obtain ⟨F, h1, h2, h3⟩ := h
  have hk2 : ∀ k, F k → w'.heap[k]? = w.heap[k]? := fun k hF => hk k (h1.own k hF) fun t cs hB => h3 k t cs hF hB
  exact ⟨F, h1.keep hs hk2, h2, fun k t cs hF hB => h3 k t cs hF ((hk2 k hF).symm.trans hB)⟩
theorem TSet.below {w0 w w' : World} {b : Nat} {c : Int} {ids : List (Int × Int)} (h : TSet w0 w b c ids) (hb : Below w.heap.size w w') : TSet w0 w' b c ids := h.keep hb.size fun k hk _ => hb.block k hk
theorem TSet.cell {w0 w : World} {b b' : Nat} {c : Int} {ids : List (Int × Int)} {t : TypeId} {cs : Array Value} (h : TSet w0 w b c ids) (hB : Blk w b' t cs) (ht : t ≠ 113) (i : Nat) (u : Value) : TSet w0 (w.setCell ⟨b', i, none⟩ u) b c ids :=
  h.keep (by simp [World.setCell]) fun k hk hT => Below.heap_setCell w ⟨b', i, none⟩ u k fun e => ht (hT t cs (by simp only at e; subst e; exact hB))
theorem TSet.ok {w0 w : World} {b : Nat} {c : Int} {ids : List (Int × Int)} (h : TSet w0 w b c ids) : ∀ k ∈ ids, idOk k := by
  obtain ⟨F, h1, _⟩ := h
  exact h1.ok
/-- What was there stays, but the set. -/
structure Turn (w0 w w' : World) : Prop where
  below : Below w0.heap.size w0 w'
  size : w.heap.size ≤ w'.heap.size
  keep : ∀ k t cs, Blk w k t cs → t ≠ 113 → w'.heap[k]? = w.heap[k]?
theorem Turn.refl {w0 w : World} (h : Below w0.heap.size w0 w) : Turn w0 w w := ⟨h, Nat.le_refl _, fun _ _ _ _ _ => rfl⟩
theorem Turn.trans {w0 a b c : World} (h : Turn w0 a b) (k : Turn w0 b c) : Turn w0 a c :=
  ⟨k.below, Nat.le_trans h.size k.size, fun i t cs hB ht => (k.keep i t cs ((h.keep i t cs hB ht).trans hB) ht).trans (h.keep i t cs hB ht)⟩
theorem Turn.of_below {w0 a b : World} (h0 : Below w0.heap.size w0 a) (h : Below a.heap.size a b) : Turn w0 a b := ⟨Below.next_ h0 h, h.size, fun i _ _ hB _ => h.block i hB.lt⟩
theorem Turn.next {w0 a b c : World} (h : Turn w0 a b) (k : Below b.heap.size b c) : Turn w0 a c := h.trans (Turn.of_below h.below k)
theorem Turn.blk {w0 w w' : World} (h : Turn w0 w w') {k : Nat} {t : TypeId} {cs : Array Value} (hB : Blk w k t cs) (ht : t ≠ 113) : Blk w' k t cs := (h.keep k t cs hB ht).trans hB
/-- A store into a block that came behind. -/
theorem Turn.cell {w0 a b : World} (h : Turn w0 a b) {k : Nat} (hk : a.heap.size ≤ k) (h0 : w0.heap.size ≤ k) (i : Nat) (u : Value) : Turn w0 a (b.setCell ⟨k, i, none⟩ u) :=
  ⟨h.below.setCell h0 u, by simpa [World.setCell] using h.size, fun j t cs hB ht => (Below.heap_setCell b ⟨k, i, none⟩ u j fun e => by simp only at e; have := hB.lt; omega).trans (h.keep j t cs hB ht)⟩
theorem TSet.add {w0 w : World} {b : Nat} {c : Int} {ids : List (Int × Int)} (h : TSet w0 w b c ids) (hw : Below w0.heap.size w0 w) (hc0 : 0 ≤ c) (hc1 : c < 9223372036854775807) (x y : Int) (hk : idOk (x, y)) :
    Calls Tryz.prog 37 #[.pointer (some ⟨b, 0, none⟩), .agg #[.int .i64 x, .int .i64 y]] w fun e w' => e = .returned (.bool (!decide ((x, y) ∈ ids))) ∧ TSet w0 w' b (c + 1) (addIds ids (x, y)) ∧ Turn w0 w w' := by
  obtain ⟨F, h1, h2, h3⟩ := h
  refine (setAdd_any h1 hc0 hc1 x y hk).mono ?_
  rintro e w' ⟨rfl, t1, t2⟩
  exact ⟨rfl, t1.tset fun k hk => hk.elim (h2 k) fun h => Nat.le_trans hw.size h.1, hw.trans (t2.below h2 hw.size), t2.size, fun k t cs hB ht => t2.block k hB.lt fun hF => ht (h3 k t cs hF hB)⟩
theorem err_turn {w0 w w' : World} {sv : Nat → Addr} (h : Turn w0 w w') : ∀ {ps : List Int} {v : Value} {i : Nat}, ErrIs w sv v ps i → ErrIs w' sv v ps i
  | [], _, _, h => h
  | _ :: _, _, _, ⟨b, u, e, hB, k⟩ => ⟨b, u, e, h.blk hB (by decide), err_turn h k⟩
theorem err_idc {w : World} {sv : Nat → Addr} {b : Nat} {cs : Array Value} (hB : Blk w b 23 cs) (i : Nat) (u : Value) : ∀ {ps : List Int} {v : Value} {j : Nat}, ErrIs w sv v ps j → ErrIs (w.setCell ⟨b, i, none⟩ u) sv v ps j
  | [], _, _, h => h
  | _ :: _, _, _, ⟨b', x, hv, hb, h⟩ => ⟨b', x, hv, Blk.far hb (show b' ≠ b from Blk.ne_ hb hB (by decide)) _, err_idc hB i u h⟩
/-- What batch.name answers. -/
def NmOut (w0 w' : World) (sv : Nat → Addr) (b : Nat) (c : Int) (ids : List (Int × Int)) (r : Except (Int × Int) ((Int × Int) × Int)) (id nx err : Value) : Prop := match r with
  | .error e => id = .agg #[.int .i64 0, .int .i64 0] ∧ nx = .int .i64 0 ∧ ErrIs w' sv err [e.2] (sIdx e.1)
  | .ok x => if x.1 ∈ ids then id = .agg #[.int .i64 0, .int .i64 0] ∧ nx = .int .i64 0 ∧ ErrIs w' sv err [] 5 else id = .agg #[.int .i64 x.1.1, .int .i64 x.1.2] ∧ nx = .int .i64 x.2 ∧ err = .nilIface ∧ TSet w0 w' b (c + 1) (ids ++ [x.1])
set_option maxHeartbeats 2000000 in
set_option maxRecDepth 100000 in
theorem btName_any {w0 w : World} {sv : Nat → Addr} (S : Sent w0 sv) (hw : Below w0.heap.size w0 w) (s : ByteArray) (p : Int) (hs : s.size ≤ 1000000) {b : Nat} {c : Int} {ids : List (Int × Int)} (h : TSet w0 w b c ids) (hc0 : 0 ≤ c) (hc1 : c < 9223372036854775807) :
    Calls Tryz.prog 74 #[.string s, .int .i64 p, .pointer (some ⟨b, 0, none⟩)] w fun e w' => ∃ id nx err, e = .returned (.tuple #[id, nx, err]) ∧ NmOut w0 w' sv b c ids (bName s p) id nx err ∧ Turn w0 w w' := by
  have hN := fun W (h : Below w0.heap.size w0 W) q lo hi hh => number_any (S.below h) s q lo hi hs hh
  have hW1 : Below w.heap.size w (w.alloc (.cells #[.int .i64 0, .int .i64 0] 23)) := (Below.refl _ _).alloc (Nat.le_refl _) _
  have B1 := Blk.new w 23 #[.int .i64 0, .int .i64 0]
  have hq : bName s p = match nmb s p 0 255 with
    | .error c => .error (c, p)
    | .ok a => match nmb s a.2 1 4294967296 with
      | .error c => .error (c, a.2)
      | .ok b => .ok (((a.1 : Int), (b.1 : Int)), b.2) := rfl
  have hin := fun x h => bName_in (s := s) (p := p) (x := x) h
  generalize bName s p = R at *
  have h1 := h.below hW1
  have hw1 := Below.next_ hw hW1
  have hsz := hw.size
  replace hw1 := Lib.hid hw1
  replace hW1 := Lib.hid hW1
  replace B1 := Lib.hid B1
  have hN1 := Lib.hid (hN _ hw1.out p 0 255 (by decide))
  have hGl : 6 < w0.heap.size := cell_lt (p := ⟨6, 0, none⟩) (S.var 5 (by decide))
  have hg1 : ¬ 6 = w.heap.size := by omega
  have hg2 : ¬ w.heap.size = 6 := by omega
  have hGt : ∀ W, Below w0.heap.size w0 W → W.cell? ⟨6, 0, none⟩ = some (.iface 242 (.pointer (some (sv 5)))) := fun W hW => (S.below hW).var 5 (by decide)
  replace hN := Lib.hid hN
  replace hGt := Lib.hid hGt
  replace hGl := Lib.hid hGl
  replace h1 := Lib.hid h1
  clear S
  cases ha : nmb s p 0 255 with
  | error q1 =>
    rw [ha] at hq hN1
    simp only at hq
    subst hq
    replace hin := Lib.hid hin
    go_enter Tryz.func74, Tryz.ntmps74
    go_wp2_with fail
    refine (hN1.out).mono ?_; rintro e w2 ⟨n, nx, err, rfl, ⟨rfl, rfl, he⟩, hb⟩
    have B2 := B1.out.below hb B1.out.lt
    have t2 := (Turn.of_below hw hW1.out).next hb
    obtain ⟨ty, u, rfl⟩ := he.iface
    have c0 := B2.cell 0
    have c1 := B2.cell 1
    have f0 := B2.frozen 0
    have f1 := B2.frozen 1
    replace B2 := Lib.hid B2
    replace t2 := Lib.hid t2
    replace he := Lib.hid he
    clear hb
    go_wp2_with fail
    refine worldD (α := fun W' => bodyPost _ _ _ _ _ W') (fun W => Blk W w.heap.size 23 #[.int .i64 0, .int .i64 0] ∧ ErrIs W sv (.iface ty u) [p] (sIdx q1) ∧ Turn w0 w W) ?_ fun W hW => ?_
    · exact ⟨Blk.eq_cs (Blk.set_ (Blk.set_ B2.out 0 _) 1 _) rfl, err_idc (Blk.set_ B2.out 0 _) 1 _ (err_idc B2.out 0 _ he.out), (t2.out.cell (Nat.le_refl _) hsz 0 _).cell (Nat.le_refl _) hsz 1 _⟩
    obtain ⟨k1, k2, k3⟩ := hW
    have z0 := k1.cell 0
    have z1 := k1.cell 1
    replace k2 := Lib.hid k2
    exact bodyPost_ret (v := .tuple #[.agg #[.int .i64 0, .int .i64 0], .int .i64 0, .iface ty u]) (by simp [results, Tryz.results74, go_sem, z0, z1]) rfl ⟨_, _, _, rfl, ⟨rfl, rfl, k2.out⟩, k3⟩
  | ok a =>
    rw [ha] at hq hN1
    obtain ⟨n1, nx1⟩ := a
    simp only at hq
    cases hb' : nmb s nx1 1 4294967296 with
    | error q1 =>
      rw [hb'] at hq
      simp only at hq
      subst hq
      replace hin := Lib.hid hin
      replace hb' := Lib.hid hb'
      go_enter Tryz.func74, Tryz.ntmps74
      go_wp2_with fail
      refine (hN1.out).mono ?_; rintro e w2 ⟨n, nx, err, rfl, ⟨rfl, rfl, rfl⟩, hb⟩
      have B2 := B1.out.below hb B1.out.lt
      have t2 := (Turn.of_below hw hW1.out).next hb
      have hN2 := hN.out _ t2.below nx1 1 4294967296 (by decide)
      rw [hb'.out] at hN2
      replace hN2 := Lib.hid hN2
      replace B2 := Lib.hid B2
      replace t2 := Lib.hid t2
      clear hb
      go_wp2_with fail
      refine (hN2.out).mono ?_; rintro e w3 ⟨n, nx, err, rfl, ⟨rfl, rfl, he⟩, hb⟩
      have B3 := B2.out.below hb B2.out.lt
      have t3 := t2.out.next hb
      obtain ⟨ty, u, rfl⟩ := he.iface
      have c0 := B3.cell 0
      have c1 := B3.cell 1
      have f0 := B3.frozen 0
      have f1 := B3.frozen 1
      replace B3 := Lib.hid B3
      replace t3 := Lib.hid t3
      replace he := Lib.hid he
      clear hb
      go_wp2_with fail
      refine worldD (α := fun W' => bodyPost _ _ _ _ _ W') (fun W => Blk W w.heap.size 23 #[.int .i64 0, .int .i64 0] ∧ ErrIs W sv (.iface ty u) [nx1] (sIdx q1) ∧ Turn w0 w W) ?_ fun W hW => ?_
      · exact ⟨Blk.eq_cs (Blk.set_ (Blk.set_ B3.out 0 _) 1 _) rfl, err_idc (Blk.set_ B3.out 0 _) 1 _ (err_idc B3.out 0 _ he.out), (t3.out.cell (Nat.le_refl _) hsz 0 _).cell (Nat.le_refl _) hsz 1 _⟩
      obtain ⟨k1, k2, k3⟩ := hW
      have z0 := k1.cell 0
      have z1 := k1.cell 1
      replace k2 := Lib.hid k2
      exact bodyPost_ret (v := .tuple #[.agg #[.int .i64 0, .int .i64 0], .int .i64 0, .iface ty u]) (by simp [results, Tryz.results74, go_sem, z0, z1]) rfl ⟨_, _, _, rfl, ⟨rfl, rfl, k2.out⟩, k3⟩
    | ok a2 =>
      rw [hb'] at hq
      obtain ⟨n2, nx2⟩ := a2
      simp only at hq
      have hin2 := hin _ hq
      simp only at hin2
      have hko : idOk ((n1 : Int), (n2 : Int)) := ⟨by simp only; omega, by simp only; omega⟩
      subst hq
      replace hb' := Lib.hid hb'
      clear hin
      go_enter Tryz.func74, Tryz.ntmps74
      go_wp2_with fail
      refine (hN1.out).mono ?_; rintro e w2 ⟨n, nx, err, rfl, ⟨rfl, rfl, rfl⟩, hb⟩
      have B2 := B1.out.below hb B1.out.lt
      have t2 := (Turn.of_below hw hW1.out).next hb
      have h2 := h1.out.below hb
      have hN2 := hN.out _ t2.below nx1 1 4294967296 (by decide)
      rw [hb'.out] at hN2
      replace hN2 := Lib.hid hN2
      replace B2 := Lib.hid B2
      replace t2 := Lib.hid t2
      replace h2 := Lib.hid h2
      clear hb
      go_wp2_with fail
      refine (hN2.out).mono ?_; rintro e w3 ⟨n, nx, err, rfl, ⟨rfl, rfl, rfl⟩, hb⟩
      have hbI : Below w3.heap.size w3 (w3.alloc (.cells #[.int .i64 n1, .int .i64 n2] 23)) := (Below.refl _ _).alloc (Nat.le_refl _) _
      have B3 := (B2.out.below hb B2.out.lt).below hbI (by have := B2.out.lt; have := hb.size; omega)
      have I3 := Blk.new w3 23 #[.int .i64 n1, .int .i64 n2]
      have t3 := (t2.out.next hb).next hbI
      have h3 := (h2.out.below hb).below hbI
      have hA := h3.add t3.below hc0 hc1 n1 n2 hko
      replace hA := Lib.hid hA
      replace B3 := Lib.hid B3
      replace I3 := Lib.hid I3
      replace t3 := Lib.hid t3
      clear hb hbI h3
      go_wp2_with fail
      refine (hA.out).mono ?_; rintro e w4 ⟨rfl, h4, t4⟩
      have B4 := t4.blk B3.out (by decide)
      have I4 := t4.blk I3.out (by decide)
      have t5 := t3.out.trans t4
      have c0 := B4.cell 0
      have c1 := B4.cell 1
      have f0 := B4.frozen 0
      have f1 := B4.frozen 1
      have i0 := I4.cell 0
      have i1 := I4.cell 1
      have g5 := hGt.out _ t5.below
      by_cases hm : ((n1 : Int), (n2 : Int)) ∈ ids
      · have hd : decide (((n1 : Int), (n2 : Int)) ∈ ids) = true := decide_eq_true hm
        replace B4 := Lib.hid B4
        replace t5 := Lib.hid t5
        replace hm := Lib.hid hm
        clear I4 t4 h4
        go_upto_region 9 with fail
        go_region
        go_wp2_with fail
        refine worldD (α := fun W' => bodyPost _ _ _ _ _ W') (fun W => Blk W w.heap.size 23 #[.int .i64 0, .int .i64 0] ∧ Turn w0 w W) ?_ fun W hW => ?_
        · exact ⟨Blk.eq_cs (Blk.set_ (Blk.set_ B4.out.drew 0 _) 1 _) rfl, ((t5.out.next (Below.refl _ _).drew).cell (Nat.le_refl _) hsz 0 _).cell (Nat.le_refl _) hsz 1 _⟩
        obtain ⟨k1, k3⟩ := hW
        have z0 := k1.cell 0
        have z1 := k1.cell 1
        exact bodyPost_ret (v := .tuple #[.agg #[.int .i64 0, .int .i64 0], .int .i64 0, .iface 242 (.pointer (some (sv 5)))]) (by simp [results, Tryz.results74, go_sem, z0, z1]) rfl ⟨_, _, _, rfl, (by show (if _ then _ else _); rw [if_pos hm.out]; exact ⟨rfl, rfl, by decide, rfl⟩), k3⟩
      · have hd : decide (((n1 : Int), (n2 : Int)) ∈ ids) = false := decide_eq_false hm
        have ha2 : addIds ids ((n1 : Int), (n2 : Int)) = ids ++ [((n1 : Int), (n2 : Int))] := by unfold addIds; rw [if_neg hm]
        rw [ha2] at h4
        replace B4 := Lib.hid B4
        replace t5 := Lib.hid t5
        replace hm := Lib.hid hm
        replace h4 := Lib.hid h4
        replace ha2 := Lib.hid ha2
        clear I4 t4
        go_wp2_with fail
        refine worldD (α := fun W' => bodyPost _ _ _ _ _ W') (fun W => Blk W w.heap.size 23 #[.int .i64 n1, .int .i64 n2] ∧ TSet w0 W b (c + 1) (ids ++ [((n1 : Int), (n2 : Int))]) ∧ Turn w0 w W) ?_ fun W hW => ?_
        · exact ⟨Blk.eq_cs (Blk.set_ (Blk.set_ B4.out 0 _) 1 _) rfl, (h4.out.cell B4.out (by decide) 0 _).cell (Blk.set_ B4.out 0 _) (by decide) 1 _, (t5.out.cell (Nat.le_refl _) hsz 0 _).cell (Nat.le_refl _) hsz 1 _⟩
        obtain ⟨k1, k2, k3⟩ := hW
        have z0 := k1.cell 0
        have z1 := k1.cell 1
        replace k2 := Lib.hid k2
        exact bodyPost_ret (v := .tuple #[.agg #[.int .i64 n1, .int .i64 n2], .int .i64 nx2, .nilIface]) (by simp [results, Tryz.results74, go_sem, z0, z1]) rfl ⟨_, _, _, rfl, (by show (if _ then _ else _); rw [if_neg hm.out]; exact ⟨rfl, rfl, rfl, k2.out⟩), k3⟩
end Go.Proofs.YtpkkjoiglemlgaaGreatDoor

/-
  batch.entry (layer 13). Where the sentinels and errors.errorType lie.
-/
namespace Go.Proofs.YtpkkjoiglemlgaaGreatDoor
set_option linter.unusedVariables false
open Go.ChangeShapes Go.WideShapes Go.ChangeAt Go.RowKit Go.Extern.Stop Go.Stop Go.Extern

def zeroEnt : Value := .agg #[.int .i64 0, .int .i64 0, .slice none 0 0, .slice none 0 0]
/-- An entry as a value: its operation's rows are the call's own. -/
def EntVal (w : World) (B : Nat) (ev : Value) (x : Ent) : Prop := ∃ A n c A' n' c', ev = .agg #[.int .i64 x.id.1, .int .i64 x.id.2, .slice A n c, .slice A' n' c'] ∧ OwnOp w B (.agg #[.slice A n c, .slice A' n' c']) x.op
/-- What batch.entry answers. -/
def EnOut (w0 w' : World) (B : Nat) (sv : Nat → Addr) (b : Nat) (c : Int) (ids : List (Int × Int)) (r : Except (Int × List Int) (Ent × Int)) (ev nx err : Value) : Prop := match r with
  | .error e => ev = zeroEnt ∧ nx = .int .i64 0 ∧ ErrIs w' sv err e.2 (sIdx e.1)
  | .ok x => EntVal w' B ev x.1 ∧ nx = .int .i64 x.2 ∧ err = .nilIface ∧ TSet w0 w' b (c + 1) (ids ++ [x.1.id])
theorem err_entc {w : World} {sv : Nat → Addr} {b : Nat} {cs : Array Value} (hB : Blk w b 64 cs) (i : Nat) (u : Value) : ∀ {ps : List Int} {v : Value} {j : Nat}, ErrIs w sv v ps j → ErrIs (w.setCell ⟨b, i, none⟩ u) sv v ps j
  | [], _, _, h => h
  | _ :: _, _, _, ⟨b', x, hv, hb, h⟩ => ⟨b', x, hv, Blk.far hb (show b' ≠ b from Blk.ne_ hb hB (by decide)) _, err_entc hB i u h⟩
theorem OwnOp.low {w : World} {B : Nat} {v : Value} {o : OOp} (h : OwnOp w B v o) {p : Addr} (hp : p.block < B) (u : Value) : OwnOp (w.setCell p u) B v o := by
  obtain ⟨A, c, A', c', e, h1, h2⟩ := h
  exact ⟨A, c, A', c', e, own_low h1 hp u, own_low h2 hp u⟩
set_option maxHeartbeats 4000000 in
set_option maxRecDepth 100000 in
theorem entry_any {w0 w : World} {sv : Nat → Addr} (S : Sent w0 sv) (T : ETy w0) (hw : Below w0.heap.size w0 w) (s : ByteArray) (p : Int) (hs : s.size ≤ 1000000) {b : Nat} {c : Int} {ids : List (Int × Int)} (h : TSet w0 w b c ids) (hc0 : 0 ≤ c) (hc1 : c < 9223372036854775807) :
    Calls Tryz.prog 46 #[.string s, .int .i64 p, .pointer (some ⟨b, 0, none⟩)] w fun e w' => ∃ ev nx err, e = .returned (.tuple #[ev, nx, err]) ∧ EnOut w0 w' w.heap.size sv b c ids (bEnt s p ids) ev nx err ∧ Turn w0 w w' := by
  have hW1 : Below w.heap.size w (w.alloc (.cells #[.int .i64 0, .int .i64 0, .slice none 0 0, .slice none 0 0] 64)) := (Below.refl _ _).alloc (Nat.le_refl _) _
  have B1 := Blk.new w 64 #[.int .i64 0, .int .i64 0, .slice none 0 0, .slice none 0 0]
  have hw1 := Below.next_ hw hW1
  have hNm := btName_any S hw1 s p hs (h.below hW1) hc0 hc1
  have hTk := fun W (h : Below w0.heap.size w0 W) q => opTake_any (S.below h) (T.below h) s q hs
  have hIs := fun W (h : Below w0.heap.size w0 W) v ps i hv => is_any (S.below h) v ps i 5 (by decide) hv
  have hAt := fun W (v : Value) (ps : List Int) (i : Nat) (h : ErrIs W sv v ps i) => at_any (w := W) (sv := sv) p v ps i h
  have hGt : ∀ W, Below w0.heap.size w0 W → W.cell? ⟨6, 0, none⟩ = some (.iface 242 (.pointer (some (sv 5)))) := fun W hW => (S.below hW).var 5 (by decide)
  have hGl : 6 < w0.heap.size := cell_lt (p := ⟨6, 0, none⟩) (S.var 5 (by decide))
  have hsz := hw.size
  have hq : bEnt s p ids = match bName s p with
    | .error e => .error (e.1, [e.2])
    | .ok x => if x.1 ∈ ids then .error (6, [p]) else match pTake s x.2 with
      | .error e => .error (e.1, if e.2.2 < 0 then [e.2.1] else [e.2.2, e.2.1])
      | .ok o => .ok (⟨x.1, o.1⟩, o.2) := rfl
  have hne : ∀ e, bName s p = .error e → sIdx e.1 < 5 := fun e he => (cOk_idx (bName_ok he)).2.2.2
  generalize bEnt s p ids = R at *
  have t1 := Turn.of_below hw hW1
  replace hNm := Lib.hid hNm
  replace hTk := Lib.hid hTk
  replace hIs := Lib.hid hIs
  replace hAt := Lib.hid hAt
  replace hGt := Lib.hid hGt
  replace hGl := Lib.hid hGl
  replace B1 := Lib.hid B1
  replace t1 := Lib.hid t1
  clear S T hW1 hw1 h
  cases hn : bName s p with
  | error q1 =>
    rw [hn] at hq hNm
    simp only at hq
    subst hq
    have hlt := hne _ hn
    replace hn := Lib.hid hn
    clear hne
    have hd : decide (sIdx q1.1 = 5) = false := decide_eq_false (by omega)
    go_enter Tryz.func46, Tryz.ntmps46
    go_wp2_with fail
    refine (hNm.out).mono ?_; rintro e w2 ⟨id, nx, err, rfl, ⟨rfl, rfl, he⟩, t2⟩
    have B2 := t2.blk B1.out (by decide)
    have t3 := t1.out.trans t2
    have hbI : Below w2.heap.size w2 (w2.alloc (.cells #[.int .i64 0, .int .i64 0] 23)) := (Below.refl _ _).alloc (Nat.le_refl _) _
    have B3 := B2.below hbI B2.lt
    have t4 := t3.next hbI
    have he3 := he.under hbI
    obtain ⟨ty, u, rfl⟩ := he3.iface
    have hI := hIs.out _ t4.below _ _ _ he3
    have g5 := hGt.out _ t4.below
    have c0 := B3.cell 0
    have c1 := B3.cell 1
    have c2 := B3.cell 2
    have c3 := B3.cell 3
    have f0 := B3.frozen 0
    have f1 := B3.frozen 1
    have f2 := B3.frozen 2
    have f3 := B3.frozen 3
    rw [hd] at hI
    replace B3 := Lib.hid B3
    replace t4 := Lib.hid t4
    replace he3 := Lib.hid he3
    replace hI := Lib.hid hI
    clear t2 t3 B2 hbI he
    go_wp2_with fail
    refine (hI.out).mono ?_; rintro e w5 ⟨rfl, rfl⟩
    go_wp2_with fail
    refine worldD (α := fun W' => bodyPost _ _ _ _ _ W') (fun W => Blk W w.heap.size 64 #[.int .i64 0, .int .i64 0, .slice none 0 0, .slice none 0 0] ∧ ErrIs W sv (.iface ty u) [q1.2] (sIdx q1.1) ∧ Turn w0 w W) ?_ fun W hW => ?_
    · exact ⟨Blk.eq_cs (Blk.set_ (Blk.set_ (Blk.set_ (Blk.set_ B3.out 0 _) 1 _) 2 _) 3 _) rfl, err_entc (Blk.set_ (Blk.set_ (Blk.set_ B3.out 0 _) 1 _) 2 _) 3 _ (err_entc (Blk.set_ (Blk.set_ B3.out 0 _) 1 _) 2 _ (err_entc (Blk.set_ B3.out 0 _) 1 _ (err_entc B3.out 0 _ he3.out))), (((t4.out.cell (Nat.le_refl _) hsz 0 _).cell (Nat.le_refl _) hsz 1 _).cell (Nat.le_refl _) hsz 2 _).cell (Nat.le_refl _) hsz 3 _⟩
    obtain ⟨k1, k2, k3⟩ := hW
    have z0 := k1.cell 0
    have z1 := k1.cell 1
    have z2 := k1.cell 2
    have z3 := k1.cell 3
    replace k2 := Lib.hid k2
    exact bodyPost_ret (v := .tuple #[zeroEnt, .int .i64 0, .iface ty u]) (by simp [zeroEnt, results, Tryz.results46, go_sem, z0, z1, z2, z3]) rfl ⟨_, _, _, rfl, ⟨rfl, rfl, k2.out⟩, k3⟩
  | ok q1 =>
    rw [hn] at hq hNm
    obtain ⟨⟨i1, i2⟩, nx1⟩ := q1
    simp only at hq
    replace hn := Lib.hid hn
    clear hne
    by_cases hm : (i1, i2) ∈ ids
    · rw [if_pos hm] at hq
      subst hq
      have hNm2 : Calls Tryz.prog 74 #[.string s, .int .i64 p, .pointer (some ⟨b, 0, none⟩)] (w.alloc (.cells #[.int .i64 0, .int .i64 0, .slice none 0 0, .slice none 0 0] 64)) fun e w' => ∃ id nx err, e = .returned (.tuple #[id, nx, err]) ∧ (id = .agg #[.int .i64 0, .int .i64 0] ∧ nx = .int .i64 0 ∧ ErrIs w' sv err [] 5) ∧ Turn w0 (w.alloc (.cells #[.int .i64 0, .int .i64 0, .slice none 0 0, .slice none 0 0] 64)) w' := hNm.out.mono (by
        rintro e w' ⟨id, nx, err, h1, h2, h3⟩
        refine ⟨id, nx, err, h1, ?_, h3⟩
        have h2 : if (i1, i2) ∈ ids then _ else _ := h2
        rwa [if_pos hm] at h2)
      replace hNm2 := Lib.hid hNm2
      replace hm := Lib.hid hm
      clear hNm
      go_enter Tryz.func46, Tryz.ntmps46
      go_wp2_with fail
      refine (hNm2.out).mono ?_; rintro e w2 ⟨id, nx, err, rfl, ⟨rfl, rfl, he⟩, t2⟩
      have B2 := t2.blk B1.out (by decide)
      have t3 := t1.out.trans t2
      have hbI : Below w2.heap.size w2 (w2.alloc (.cells #[.int .i64 0, .int .i64 0] 23)) := (Below.refl _ _).alloc (Nat.le_refl _) _
      have B3 := B2.below hbI B2.lt
      have t4 := t3.next hbI
      have he3 := he.under hbI
      obtain ⟨ty, u, rfl⟩ := he3.iface
      have hI := hIs.out _ t4.below _ _ _ he3
      rw [decide_eq_true rfl] at hI
      have hA := hAt.out _ _ _ _ he3
      have g5 := hGt.out _ t4.below
      replace B3 := Lib.hid B3
      replace t4 := Lib.hid t4
      replace hI := Lib.hid hI
      replace hA := Lib.hid hA
      clear t2 t3 B2 hbI he he3
      go_wp2_with fail
      refine (hI.out).mono ?_; rintro e w5 ⟨rfl, rfl⟩
      go_wp2_with fail
      refine (hA.out).mono ?_; rintro e w6 ⟨v, rfl, hv, hb6⟩
      obtain ⟨ty2, u2, rfl⟩ := hv.iface
      have B6 := B3.out.below hb6 B3.out.lt
      have t6 := t4.out.next hb6
      have c0 := B6.cell 0
      have c1 := B6.cell 1
      have c2 := B6.cell 2
      have c3 := B6.cell 3
      have f0 := B6.frozen 0
      have f1 := B6.frozen 1
      have f2 := B6.frozen 2
      have f3 := B6.frozen 3
      replace B6 := Lib.hid B6
      replace t6 := Lib.hid t6
      replace hv := Lib.hid hv
      clear hb6
      go_wp2_with fail
      refine worldD (α := fun W' => bodyPost _ _ _ _ _ W') (fun W => Blk W w.heap.size 64 #[.int .i64 0, .int .i64 0, .slice none 0 0, .slice none 0 0] ∧ ErrIs W sv (.iface ty2 u2) [p] 5 ∧ Turn w0 w W) ?_ fun W hW => ?_
      · exact ⟨Blk.eq_cs (Blk.set_ (Blk.set_ (Blk.set_ (Blk.set_ B6.out 0 _) 1 _) 2 _) 3 _) rfl, err_entc (Blk.set_ (Blk.set_ (Blk.set_ B6.out 0 _) 1 _) 2 _) 3 _ (err_entc (Blk.set_ (Blk.set_ B6.out 0 _) 1 _) 2 _ (err_entc (Blk.set_ B6.out 0 _) 1 _ (err_entc B6.out 0 _ hv.out))), (((t6.out.cell (Nat.le_refl _) hsz 0 _).cell (Nat.le_refl _) hsz 1 _).cell (Nat.le_refl _) hsz 2 _).cell (Nat.le_refl _) hsz 3 _⟩
      obtain ⟨k1, k2, k3⟩ := hW
      have z0 := k1.cell 0
      have z1 := k1.cell 1
      have z2 := k1.cell 2
      have z3 := k1.cell 3
      replace k2 := Lib.hid k2
      exact bodyPost_ret (v := .tuple #[zeroEnt, .int .i64 0, .iface ty2 u2]) (by simp [zeroEnt, results, Tryz.results46, go_sem, z0, z1, z2, z3]) rfl ⟨_, _, _, rfl, ⟨rfl, rfl, k2.out⟩, k3⟩
    · rw [if_neg hm] at hq
      have hNm2 : Calls Tryz.prog 74 #[.string s, .int .i64 p, .pointer (some ⟨b, 0, none⟩)] (w.alloc (.cells #[.int .i64 0, .int .i64 0, .slice none 0 0, .slice none 0 0] 64)) fun e w' => ∃ id nx err, e = .returned (.tuple #[id, nx, err]) ∧ (id = .agg #[.int .i64 i1, .int .i64 i2] ∧ nx = .int .i64 nx1 ∧ err = .nilIface ∧ TSet w0 w' b (c + 1) (ids ++ [(i1, i2)])) ∧ Turn w0 (w.alloc (.cells #[.int .i64 0, .int .i64 0, .slice none 0 0, .slice none 0 0] 64)) w' := hNm.out.mono (by
        rintro e w' ⟨id, nx, err, h1, h2, h3⟩
        refine ⟨id, nx, err, h1, ?_, h3⟩
        have h2 : if (i1, i2) ∈ ids then _ else _ := h2
        rwa [if_neg hm] at h2)
      replace hNm2 := Lib.hid hNm2
      replace hm := Lib.hid hm
      clear hNm
      cases hp : pTake s nx1 with
      | error q2 =>
        obtain ⟨pl, hpl⟩ : ∃ pl, (if q2.2.2 < 0 then [q2.2.1] else [q2.2.2, q2.2.1]) = pl := ⟨_, rfl⟩
        rw [hp] at hq
        simp only at hq
        rw [hpl] at hq
        subst hq
        replace hpl := Lib.hid hpl
        go_enter Tryz.func46, Tryz.ntmps46
        go_wp2_with fail
        refine (hNm2.out).mono ?_; rintro e w2 ⟨id, nx, err, rfl, ⟨rfl, rfl, rfl, h2⟩, t2⟩
        have B2 := t2.blk B1.out (by decide)
        have t3 := t1.out.trans t2
        have hbI : Below w2.heap.size w2 (w2.alloc (.cells #[.int .i64 i1, .int .i64 i2] 23)) := (Below.refl _ _).alloc (Nat.le_refl _) _
        have B3 := B2.below hbI B2.lt
        have t4 := t3.next hbI
        have g5 := hGt.out _ t4.below
        have hT := hTk.out _ t4.below nx1
        rw [hp] at hT
        replace B3 := Lib.hid B3
        replace t4 := Lib.hid t4
        replace hT := Lib.hid hT
        replace hp := Lib.hid hp
        clear t2 t3 B2 hbI h2
        go_wp2_with fail
        refine (is_nil (sv 5)).mono ?_; rintro e w5 ⟨rfl, rfl⟩
        go_wp2_with fail
        refine (hT.out).mono ?_; rintro e w6 ⟨v, nx, err, rfl, ⟨rfl, rfl, he⟩, hb6⟩
        have he : ErrIs w6 sv err (if q2.2.2 < 0 then [q2.2.1] else [q2.2.2, q2.2.1]) (sIdx q2.1) := he
        rw [hpl.out] at he
        have hbO : Below w6.heap.size w6 (w6.alloc (.cells #[.slice none 0 0, .slice none 0 0] 62)) := (Below.refl _ _).alloc (Nat.le_refl _) _
        have B6 := (B3.out.below hb6 B3.out.lt).below hbO (by have := B3.out.lt; have := hb6.size; omega)
        have t6 := (t4.out.next hb6).next hbO
        have he6 := he.under hbO
        obtain ⟨ty2, u2, rfl⟩ := he6.iface
        have c0 := B6.cell 0
        have c1 := B6.cell 1
        have c2 := B6.cell 2
        have c3 := B6.cell 3
        have f0 := B6.frozen 0
        have f1 := B6.frozen 1
        have f2 := B6.frozen 2
        have f3 := B6.frozen 3
        replace B6 := Lib.hid B6
        replace t6 := Lib.hid t6
        replace he6 := Lib.hid he6
        clear hb6 hbO he
        unfold zeroOp
        go_wp2_with fail
        refine worldD (α := fun W' => bodyPost _ _ _ _ _ W') (fun W => Blk W w.heap.size 64 #[.int .i64 0, .int .i64 0, .slice none 0 0, .slice none 0 0] ∧ ErrIs W sv (.iface ty2 u2) pl (sIdx q2.1) ∧ Turn w0 w W) ?_ fun W hW => ?_
        · exact ⟨Blk.eq_cs (Blk.set_ (Blk.set_ (Blk.set_ (Blk.set_ B6.out 0 _) 1 _) 2 _) 3 _) rfl, err_entc (Blk.set_ (Blk.set_ (Blk.set_ B6.out 0 _) 1 _) 2 _) 3 _ (err_entc (Blk.set_ (Blk.set_ B6.out 0 _) 1 _) 2 _ (err_entc (Blk.set_ B6.out 0 _) 1 _ (err_entc B6.out 0 _ he6.out))), (((t6.out.cell (Nat.le_refl _) hsz 0 _).cell (Nat.le_refl _) hsz 1 _).cell (Nat.le_refl _) hsz 2 _).cell (Nat.le_refl _) hsz 3 _⟩
        obtain ⟨k1, k2, k3⟩ := hW
        have z0 := k1.cell 0
        have z1 := k1.cell 1
        have z2 := k1.cell 2
        have z3 := k1.cell 3
        replace k2 := Lib.hid k2
        exact bodyPost_ret (v := .tuple #[zeroEnt, .int .i64 0, .iface ty2 u2]) (by simp [zeroEnt, results, Tryz.results46, go_sem, z0, z1, z2, z3]) rfl ⟨_, _, _, rfl, ⟨rfl, rfl, k2.out⟩, k3⟩
      | ok q2 =>
        rw [hp] at hq
        obtain ⟨o, nx2⟩ := q2
        simp only at hq
        subst hq
        go_enter Tryz.func46, Tryz.ntmps46
        go_wp2_with fail
        refine (hNm2.out).mono ?_; rintro e w2 ⟨id, nx, err, rfl, ⟨rfl, rfl, rfl, h2⟩, t2⟩
        have B2 := t2.blk B1.out (by decide)
        have t3 := t1.out.trans t2
        have hbI : Below w2.heap.size w2 (w2.alloc (.cells #[.int .i64 i1, .int .i64 i2] 23)) := (Below.refl _ _).alloc (Nat.le_refl _) _
        have B3 := B2.below hbI B2.lt
        have I3 := Blk.new w2 23 #[.int .i64 i1, .int .i64 i2]
        have t4 := t3.next hbI
        have h3 := h2.below hbI
        have g5 := hGt.out _ t4.below
        have hT := hTk.out _ t4.below nx1
        rw [hp] at hT
        replace B3 := Lib.hid B3
        replace I3 := Lib.hid I3
        replace t4 := Lib.hid t4
        replace h3 := Lib.hid h3
        replace hT := Lib.hid hT
        replace hp := Lib.hid hp
        clear t2 t3 B2 hbI h2
        go_wp2_with fail
        refine (is_nil (sv 5)).mono ?_; rintro e w5 ⟨rfl, rfl⟩
        go_wp2_with fail
        refine (hT.out).mono ?_; rintro e w6 ⟨v, nx, err, rfl, ⟨ho, rfl, rfl⟩, hb6⟩
        obtain ⟨A, n, c', A', n', c'', rfl⟩ := ho.is.form
        have hbO : Below w6.heap.size w6 (w6.alloc (.cells #[.slice A n c', .slice A' n' c''] 62)) := (Below.refl _ _).alloc (Nat.le_refl _) _
        have B6 := (B3.out.below hb6 B3.out.lt).below hbO (by have := B3.out.lt; have := hb6.size; omega)
        have I6 := (I3.out.below hb6 I3.out.lt).below hbO (by have := I3.out.lt; have := hb6.size; omega)
        have t6 := (t4.out.next hb6).next hbO
        have h6 := (h3.out.below hb6).below hbO
        have ho6 := ho.below hbO
        have hlt : w.heap.size < (w2.alloc (.cells #[.int .i64 i1, .int .i64 i2] 23)).heap.size := B3.out.lt
        have c0 := B6.cell 0
        have c1 := B6.cell 1
        have c2 := B6.cell 2
        have c3 := B6.cell 3
        have f0 := B6.frozen 0
        have f1 := B6.frozen 1
        have f2 := B6.frozen 2
        have f3 := B6.frozen 3
        have i0 := I6.cell 0
        have i1' := I6.cell 1
        replace B6 := Lib.hid B6
        replace t6 := Lib.hid t6
        replace h6 := Lib.hid h6
        replace ho6 := Lib.hid ho6
        replace hlt := Lib.hid hlt
        clear hb6 hbO ho I6
        go_wp2_with fail
        refine worldD (α := fun W' => bodyPost _ _ _ _ _ W') (fun W => Blk W w.heap.size 64 #[.int .i64 i1, .int .i64 i2, .slice A n c', .slice A' n' c''] ∧ OwnOp W w.heap.size (.agg #[.slice A n c', .slice A' n' c'']) o ∧ TSet w0 W b (c + 1) (ids ++ [(i1, i2)]) ∧ Turn w0 w W) ?_ fun W hW => ?_
        · exact ⟨Blk.eq_cs (Blk.set_ (Blk.set_ (Blk.set_ (Blk.set_ B6.out 0 _) 1 _) 2 _) 3 _) rfl, ((((ho6.out.low hlt.out _).low hlt.out _).low hlt.out _).low hlt.out _).mono (Nat.le_of_lt hlt.out), (((h6.out.cell B6.out (by decide) 0 _).cell (Blk.set_ B6.out 0 _) (by decide) 1 _).cell (Blk.set_ (Blk.set_ B6.out 0 _) 1 _) (by decide) 2 _).cell (Blk.set_ (Blk.set_ (Blk.set_ B6.out 0 _) 1 _) 2 _) (by decide) 3 _, (((t6.out.cell (Nat.le_refl _) hsz 0 _).cell (Nat.le_refl _) hsz 1 _).cell (Nat.le_refl _) hsz 2 _).cell (Nat.le_refl _) hsz 3 _⟩
        obtain ⟨k1, k2, k4, k3⟩ := hW
        have z0 := k1.cell 0
        have z1 := k1.cell 1
        have z2 := k1.cell 2
        have z3 := k1.cell 3
        replace k2 := Lib.hid k2
        replace k4 := Lib.hid k4
        exact bodyPost_ret (v := .tuple #[.agg #[.int .i64 i1, .int .i64 i2, .slice A n c', .slice A' n' c''], .int .i64 nx2, .nilIface]) (by simp [results, Tryz.results46, go_sem, z0, z1, z2, z3]) rfl ⟨_, _, _, rfl, ⟨⟨_, _, _, _, _, _, rfl, k2.out⟩, rfl, rfl, k4.out⟩, k3⟩
end Go.Proofs.YtpkkjoiglemlgaaGreatDoor
