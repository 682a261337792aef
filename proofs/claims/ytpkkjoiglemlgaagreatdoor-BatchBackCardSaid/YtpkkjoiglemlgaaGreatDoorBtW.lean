import Derived.Test.YtpkkjoiglemlgaaGreatDoorBtE
import Derived.Test.YtpkkjoiglemlgaaGreatDoorIdD
import Derived.Test.YtpkkjoiglemlgaaGreatDoorPlaces
import Derived.Test.YtpkkjoiglemlgaaGreatDoorLexH
import Derived.Deep.Cut
import Derived.Test.YtpkkjoiglemlgaaGreatDoorOpX
import Derived.Test.YtpkkjoiglemlgaaGreatDoorIdL
/-
  batch.Parse (layer 13). Where the sentinels and errors.errorType lie.
-/
namespace Go.Proofs.YtpkkjoiglemlgaaGreatDoor
set_option linter.unusedVariables false
open Go.ChangeShapes Go.WideShapes Go.ChangeAt Go.RowKit Go.Extern.Stop Go.Stop Go.Extern

/-- An entry, and its operation's two rows as values. -/
abbrev EItem := Ent × Value × Value
def mk4 (it : EItem) : List Value := [.int .i64 it.1.id.1, .int .i64 it.1.id.2, it.2.1, it.2.2]
/-- A row of entries that a call made. -/
def EntRow (W : World) (B : Nat) (v : Value) (l : List Ent) : Prop := ∃ its : List EItem, its.map (·.1) = l ∧ W.ownsRow B 64 4 v l.length (its.flatMap mk4) ∧ ∀ it ∈ its, OwnOp W B (.agg #[it.2.1, it.2.2]) it.1.op
theorem EntRow.below {W W' : World} {B : Nat} {v : Value} {l : List Ent} (h : EntRow W B v l) (hb : Below W.heap.size W W') : EntRow W' B v l := by
  obtain ⟨its, h1, h2, h3⟩ := h
  exact ⟨its, h1, ownKeep h2 fun g hg => hb.block g (World.ownsRow.lt h2 g hg).2, fun it hi => (h3 it hi).below hb⟩
theorem OwnOp.turn {w0 w w' : World} {B : Nat} {v : Value} {o : OOp} (h : OwnOp w B v o) (t : Turn w0 w w') : OwnOp w' B v o := h.keep fun g ty cs ht hB => t.keep g ty cs hB (by rcases ht with rfl | rfl <;> decide)
theorem EntRow.turn {w0 W W' : World} {B : Nat} {v : Value} {l : List Ent} (h : EntRow W B v l) (t : Turn w0 W W') : EntRow W' B v l := by
  obtain ⟨its, h1, h2, h3⟩ := h
  refine ⟨its, h1, ⟨h2.1, h2.2.imp id ?_⟩, fun it hi => (h3 it hi).turn t⟩
  rintro ⟨g, cap, cur, rfl, e2, e3, e4⟩
  exact ⟨g, cap, cur, rfl, e2, (t.keep g _ cur e3 (by decide)).trans e3, e4⟩
theorem EntRow.none_ (W : World) (B : Nat) : EntRow W B (.slice none 0 0) [] := ⟨[], rfl, ⟨rfl, .inl ⟨rfl, rfl⟩⟩, by simp⟩
theorem EntRow.len {W : World} {B : Nat} {v : Value} {l : List Ent} (h : EntRow W B v l) : ∃ A c, v = .slice A l.length c := by
  obtain ⟨its, h1, h2, h3⟩ := h
  rcases h2.2 with ⟨rfl, h0⟩ | ⟨g, cap, _, rfl, _⟩
  · exact ⟨none, 0, by rw [h0]⟩
  · exact ⟨_, cap, rfl⟩
/-- A row with one more. -/
theorem EntRow.snoc {W w5 : World} {B : Nat} {v v' : Value} {l : List Ent} {x : Ent} {g t : Value} (its : List EItem) (h1 : its.map (·.1) = l) (h2 : W.ownsRow B 64 4 v l.length (its.flatMap mk4)) (h3 : ∀ it ∈ its, OwnOp W B (.agg #[it.2.1, it.2.2]) it.1.op) (ho : OwnOp W B (.agg #[g, t]) x.op)
    (hn : w5.ownsRow B 64 4 v' (l.length + 1) (its.flatMap mk4 ++ [.int .i64 x.id.1, .int .i64 x.id.2, g, t])) (hg : W.grownBy w5 v.ownBlock) : EntRow w5 B v' (l ++ [x]) := by
  have hk : ∀ {u : Value} {o : OOp}, OwnOp W B u o → OwnOp w5 B u o := fun ⟨A, c, A', c', e, k1, k2⟩ => ⟨A, c, A', c', e, own_grow k1 h2 (by decide) hg, own_grow k2 h2 (by decide) hg⟩
  refine ⟨its ++ [(x, g, t)], by simp [h1], ?_, fun it hi => ?_⟩
  · rw [List.length_append, List.length_singleton, List.flatMap_append]
    simpa [mk4] using hn
  · rcases List.mem_append.1 hi with hi | hi
    · exact hk (h3 it hi)
    · obtain rfl := List.mem_singleton.1 hi
      exact hk ho
theorem TSet.grown {w0 W w5 : World} {b : Nat} {c : Int} {ids : List (Int × Int)} (h : TSet w0 W b c ids) {B size n : Nat} {te : TypeId} {v : Value} {ys : List Value} (k : W.ownsRow B te size v n ys) (hne : te ≠ 113) (hg : W.grownBy w5 v.ownBlock) : TSet w0 w5 b c ids :=
  h.keep hg.size fun i hi hT => hg.block i hi fun e => by
    rcases k.2 with ⟨rfl, _⟩ | ⟨g, cap, cur, rfl, e2, e3, e4⟩
    · simp [Value.ownBlock] at e
    · have : i = g := by simpa [Value.ownBlock] using e
      subst this
      exact hne (hT _ _ e3)
theorem OwnSet.tset {w0 w w' : World} {b : Nat} {c : Int} {ids : List (Int × Int)} (h : OwnSet w w' b c ids) (hs : w0.heap.size ≤ w.heap.size) : TSet w0 w' b c ids := by
  obtain ⟨F, h1, h2⟩ := h
  exact h1.tset fun k hk => Nat.le_trans hs (h2 k hk)
theorem infoEn : (Tryz.prog.info? 64).map (fun i => (i.zero, i.size, i.bytes)) = some (some (.agg #[.int .i64 0, .int .i64 0, .slice none 0 0, .slice none 0 0]), 4, 64) := by kernel_rfl
theorem reads_four (w : World) (t : TypeId) (a b c d : Value) : Reads (w.alloc (.cells #[a, b, c, d] t)) (w.heap.size + 1) 4 (some ⟨w.heap.size, 0, none⟩) 1 [a, b, c, d] := by
  refine ⟨rfl, fun _ => ⟨_, rfl, by show w.heap.size < w.heap.size + 1; omega, fun j u hu => ?_⟩⟩
  have h := (Blk.new w t #[a, b, c, d]).cell j
  have e : (⟨w.heap.size, 0, none⟩ : Addr).add j = ⟨w.heap.size, j, none⟩ := by unfold Addr.add; split <;> simp_all
  rw [e, h]
  simpa using hu
theorem slice_ownE {w : World} {base : Nat} {e : TypeId} {size n : Nat} {v : Value} {xs : List Value} (h : w.ownsRow base e size v n xs) : ∃ A c, v = .slice A n c := by
  rcases h.2 with ⟨rfl, rfl⟩ | ⟨g, cap, _, rfl, _⟩
  · exact ⟨none, 0, rfl⟩
  · exact ⟨_, cap, rfl⟩
/-- What batch.Parse answers. -/
def BpOut (w' : World) (B : Nat) (sv : Nat → Addr) (r : Except (Int × List Int) (List Ent)) (v err : Value) : Prop := match r with
  | .error e => v = .slice none 0 0 ∧ ErrIs w' sv err e.2 (sIdx e.1)
  | .ok l => EntRow w' B v l ∧ err = .nilIface
theorem bParse_eq (s : ByteArray) : bParse s = match cnt s 0 16 3 with
  | .error c => .error (c, [0])
  | .ok n => match bRow s n.1 0 n.2 [] with
    | .error e => .error e
    | .ok x => if x.2 < s.size then .error (3, [x.2]) else .ok x.1 := by
  unfold bParse cnt
  by_cases h1 : (tk s 0).2.2 ≠ 0
  · simp only [if_pos h1]
  · by_cases h2 : 16 < (tk s 0).1
    · simp only [if_neg h1, if_pos h2]
    · simp only [if_neg h1, if_neg h2]
      cases bRow s (tk s 0).1 0 (tk s 0).2.1 [] <;> rfl
set_option maxHeartbeats 4000000 in
set_option maxRecDepth 100000 in
theorem btParse_any {w : World} {sv : Nat → Addr} (S : Sent w sv) (T : ETy w) (s : ByteArray) (hs : s.size ≤ 1000000) :
    Calls Tryz.prog 19 #[.string s] w fun e w' => ∃ v err, e = .returned (.tuple #[v, err]) ∧ BpOut w' w.heap.size sv (bParse s) v err ∧ Below w.heap.size w w' := by
  obtain ⟨i0, hi, hz0, hz1, hz2⟩ := info_parts infoEn
  have hT := take_any S s 0 hs
  have hN3 := fun W (h : Below w.heap.size w W) => new_any (S.below h) 3
  have hA := fun W (p : Int) (v : Value) (ps : List Int) (i : Nat) (h : ErrIs W sv v ps i) => at_any (w := W) (sv := sv) p v ps i h
  have hL3 : ∀ W, ErrIs W sv (newV sv 3) [] (sIdx 3) := fun W => ⟨by decide, rfl⟩
  have hE := fun W (h : Below w.heap.size w W) p b c ids (ht : TSet w W b c ids) (c0 : 0 ≤ c) (c1 : c < 9223372036854775807) => entry_any S T h s p hs ht c0 c1
  have hq := bParse_eq s
  have hlt := tkn_lt s 0
  unfold cnt at hq
  generalize bParse s = R at *
  generalize tk s 0 = t at *
  obtain ⟨n, nx, c⟩ := t
  simp only at hT hq hlt
  replace hT := Lib.hid hT
  replace hN3 := Lib.hid hN3
  replace hA := Lib.hid hA
  replace hL3 := Lib.hid hL3
  replace hE := Lib.hid hE
  clear S T
  by_cases c0 : c = 0
  · subst c0
    rw [if_neg (by decide)] at hq
    by_cases h16 : 16 < n
    · rw [if_pos h16] at hq
      subst hq
      have d1 : decide ((16 : Int) < (n : Int)) = true := decide_eq_true (by omega)
      go_enter Tryz.func19, Tryz.ntmps19
      go_wp2
      go_step3
      go_wp2_with fail
      refine (hT.out).mono ?_; rintro e w1 ⟨v, rfl, hv, hb1⟩
      obtain ⟨_, rfl⟩ := hv.resolve_right (fun h => h.1 rfl)
      replace hb1 := Lib.hid hb1
      clear hv
      go_wp2_with fail
      refine (hN3.out _ hb1.out).mono ?_; rintro e w2 ⟨rfl, rfl⟩
      go_wp2_with fail
      refine (hA.out _ 0 _ _ _ (hL3.out _)).mono ?_; rintro e w5 ⟨v, rfl, hv, hb⟩
      obtain ⟨ty, u, rfl⟩ := hv.iface
      replace hv := Lib.hid hv
      replace hb := Lib.hid hb
      go_wp2_with fail
      rw [Exit.noGoto_ret]
      exact bodyPost_ret (results_tmp2 Tryz.results19 _ _ _) rfl ⟨_, _, rfl, ⟨rfl, hv.out⟩, Below.next_ hb1.out hb.out⟩
    have d1 : decide ((16 : Int) < (n : Int)) = false := decide_eq_false (by omega)
    rw [if_neg h16] at hq
    simp only at hq
    have hwn : IntKind.i64.wrap (n : Int) = (n : Int) := by rw [IntKind.wrap_i64]; omega
    obtain ⟨Q, hQ⟩ : ∃ Q, bRow s n 0 nx [] = Q := ⟨_, rfl⟩
    rw [hQ] at hq
    have hlen : ∀ x, Q = .ok x → x.1.length = n := fun x h => by simpa using bRow_len n 0 nx [] x (hQ.trans h)
    replace hQ := Lib.hid hQ
    replace hq := Lib.hid hq
    replace hlen := Lib.hid hlen
    go_enter Tryz.func19, Tryz.ntmps19
    go_wp2
    go_step3
    go_wp2_with fail
    refine (hT.out).mono ?_; rintro e w1 ⟨v, rfl, hv, hb1⟩
    obtain ⟨_, rfl⟩ := hv.resolve_right (fun h => h.1 rfl)
    have hOf := setOf_any (w := w1) (A := none) (n := 0) (cap := 0) (l := []) rfl (by decide) Reads.none_ (by simp)
    replace hOf := Lib.hid hOf
    replace hb1 := Lib.hid hb1
    clear hv
    go_wp2_with fail
    refine (hOf.out).mono ?_; rintro e w2 ⟨b, rfl, hO, hb2⟩
    have h2 := hO.tset (w0 := w) hb1.out.size
    have hb3 := Below.next_ hb1.out hb2
    replace h2 := Lib.hid h2
    replace hb3 := Lib.hid hb3
    clear hO hb2
    go_wp2_with fail
    go_step3
    go_wp2_with fail
    go_loopw [5, 6, 7, 33] (fun a ee out i wr => ∃ (k : Nat) (p : Int) (l : List Ent), ee = .nilIface ∧ i = .int .i64 k ∧ k ≤ n ∧ a = .int .i64 p ∧ l.length = k ∧ EntRow wr w.heap.size out l ∧ TSet w wr b k (l.map (·.id)) ∧ Hid (bRow s (n - k) k p l = Q) ∧ Below w.heap.size w wr) (fun _ _ _ i _ => n + 1 - (intOf i).toNat)
    case atStart => exact ⟨0, nx, [], rfl, rfl, Nat.zero_le _, rfl, rfl, EntRow.none_ _ _, h2.out, hQ, hb3.out⟩
    case round =>
      obtain ⟨k, p, l, rfl, rfl, hk, rfl, hl, hrow, hset, hQk, hb⟩ := hrel
      by_cases hkn : k < n
      · have hEn := hE.out wr hb p b k (l.map (·.id)) hset (by omega) (by omega)
        have hs1 : bRow s (n - k) k p l = match bEnt s p (l.map (·.id)) with
          | .error e => .error (e.1, (k : Int) :: e.2)
          | .ok x => bRow s (n - k - 1) (k + 1) x.2 (l ++ [x.1]) := by
          rw [show n - k = (n - k - 1) + 1 by omega]; rfl
        have hQ2 := hs1.symm.trans hQk.out
        clear hs1 hQk
        cases hx : bEnt s p (l.map (·.id)) with
        | error e1 =>
          rw [hx] at hEn hQ2
          simp only at hQ2
          have hR : Hid (R = .error (e1.1, (k : Int) :: e1.2)) := Lib.hid (by rw [hq.out, ← hQ2])
          replace hEn := Lib.hid hEn
          replace hb := Lib.hid hb
          replace hQ2 := Lib.hid hQ2
          clear hrow hset
          go_wp2_with fail
          refine (hEn.out).mono ?_; rintro e w4 ⟨ev, nx2, err, rfl, ⟨rfl, rfl, he⟩, t4⟩
          have hbE : Below w4.heap.size w4 (w4.alloc (.cells #[.int .i64 0, .int .i64 0, .slice none 0 0, .slice none 0 0] 64)) := (Below.refl _ _).alloc (Nat.le_refl _) _
          have he2 := he.under hbE
          have hb5 := Below.next_ t4.below hbE
          obtain ⟨ty, u, rfl⟩ := he2.iface
          have hA2 := hA.out _ (k : Int) _ _ _ he2
          replace hA2 := Lib.hid hA2
          replace hb5 := Lib.hid hb5
          clear he he2 hbE t4
          unfold zeroEnt
          go_wp2_with fail
          refine (hA2.out).mono ?_; rintro e w6 ⟨v, rfl, hv, hb6⟩
          obtain ⟨ty2, u2, rfl⟩ := hv.iface
          replace hv := Lib.hid hv
          replace hb6 := Lib.hid hb6
          go_wp2_with fail
          rw [Exit.noGoto_ret]
          exact bodyPost_ret (results_tmp2 Tryz.results19 _ _ _) rfl ⟨_, _, rfl, (by rw [hR.out]; exact ⟨rfl, hv.out⟩), Below.next_ hb5.out hb6.out⟩
        | ok x =>
          rw [hx] at hEn hQ2
          obtain ⟨x, nx2⟩ := x
          simp only at hQ2
          have hQ3 : Hid (bRow s (n - (k + 1)) (k + 1) nx2 (l ++ [x]) = Q) := Lib.hid (by rw [← hQ2]; congr 1)
          replace hEn := Lib.hid hEn
          replace hb := Lib.hid hb
          replace hQ2 := Lib.hid hQ2
          have hl2 : l.length < 17 := by omega
          replace hl := Lib.hid hl
          clear hset
          go_wp2_with fail
          refine (hEn.out).mono ?_; rintro e w4 ⟨ev, nx3, err, rfl, ⟨⟨A, na, ca, A', na', ca', rfl, ho⟩, rfl, rfl, hset⟩, t4⟩
          have hsz4 := t4.below.size
          have hrow2 := hrow.turn t4
          clear hrow
          obtain ⟨its, g1, g2, g3⟩ := hrow2
          obtain ⟨A0, c0, rfl⟩ := slice_ownE g2
          have hbE : Below w4.heap.size w4 ((w4.alloc (.cells #[.int .i64 x.id.1, .int .i64 x.id.2, .slice A na ca, .slice A' na' ca'] 64)).alloc (.cells #[.int .i64 x.id.1, .int .i64 x.id.2, .slice A na ca, .slice A' na' ca'] 64)) := ((Below.refl _ _).alloc (Nat.le_refl _) _).alloc (by simp) _
          have g4 := fun it hi => (g3 it hi).below hbE
          have ho2 := (ho.mono hb.out.size).below hbE
          have hset2 := hset.below hbE
          have hb5 := Below.next_ t4.below hbE
          have hg2 := (g2.alloc (.cells #[.int .i64 x.id.1, .int .i64 x.id.2, .slice A na ca, .slice A' na' ca'] 64)).alloc (.cells #[.int .i64 x.id.1, .int .i64 x.id.2, .slice A na ca, .slice A' na' ca'] 64)
          replace hset2 := Lib.hid hset2
          replace ho2 := Lib.hid ho2
          replace g4 := Lib.hid g4
          replace hb5 := Lib.hid hb5
          replace hg2 := Lib.hid hg2
          replace g1 := Lib.hid g1
          clear ho hset g3 t4 hbE
          go_wp2_with (at_builtin; go_loud (refine wpList_append_any _ rfl _ _ 37 rfl w.heap.size 64 i0 (.agg #[.int .i64 0, .int .i64 0, .slice none 0 0, .slice none 0 0]) 4 64 Tryz.underlying37 hi hz0 hz1 hz2 rfl (by decide) _ _ _ rfl hg2.out (w4.heap.size + 1 + 1) (some ⟨w4.heap.size + 1, 0, none⟩) 1 1 [.int .i64 x.id.1, .int .i64 x.id.2, .slice A na ca, .slice A' na' ca'] rfl (by simpa using reads_four (w4.alloc (.cells #[.int .i64 x.id.1, .int .i64 x.id.2, .slice A na ca, .slice A' na' ca'] 64)) 64 (.int .i64 x.id.1) (.int .i64 x.id.2) (.slice A na ca) (.slice A' na' ca')) (by simp [Value.oneCell']) (by unfold maxLen; omega) (by omega) (by simp; omega) ?_; intro v' w5 hown5 hgrow hloc; have hr5 := EntRow.snoc its g1.out hg2.out g4.out ho2.out hown5 hgrow; have hset5 := hset2.out.grown hg2.out (by decide) hgrow; have hb6 := own_belowI (Nat.le_refl _) hb5.out hg2.out hgrow; replace hr5 := Lib.hid hr5; replace hset5 := Lib.hid hset5; replace hb6 := Lib.hid hb6))
          go_roundw
          case rel => exact ⟨k + 1, nx2, l ++ [x], rfl, by go_num, by omega, rfl, by simp [hl.out], hr5.out, by simpa using hset5.out, hQ3, hb6.out⟩
          case measure => simp [intOf] <;> omega
      · obtain rfl : k = n := by omega
        have hQ2 : Q = .ok (l, p) := by rw [← hQk.out, Nat.sub_self]; rfl
        have hR := hq.out
        rw [hQ2] at hR
        simp only at hR
        subst hl
        obtain ⟨A0, c0, rfl⟩ := hrow.len
        replace hQ2 := Lib.hid hQ2
        by_cases hp : p < (s.size : Int)
        · rw [if_pos hp] at hR
          have d2 : decide (p < (s.size : Int)) = true := decide_eq_true hp
          replace hR := Lib.hid hR
          replace hb := Lib.hid hb
          clear hrow hset
          go_wp2_with fail
          refine (hN3.out _ hb.out).mono ?_; rintro e w4 ⟨rfl, rfl⟩
          go_wp2_with fail
          refine (hA.out _ p _ _ _ (hL3.out _)).mono ?_; rintro e w6 ⟨v, rfl, hv, hb6⟩
          obtain ⟨ty2, u2, rfl⟩ := hv.iface
          replace hv := Lib.hid hv
          replace hb6 := Lib.hid hb6
          go_wp2_with fail
          rw [Exit.noGoto_ret]
          exact bodyPost_ret (results_tmp2 Tryz.results19 _ _ _) rfl ⟨_, _, rfl, (by rw [hR.out]; exact ⟨rfl, hv.out⟩), Below.next_ hb.out hb6.out⟩
        · rw [if_neg hp] at hR
          have d2 : decide (p < (s.size : Int)) = false := decide_eq_false hp
          replace hR := Lib.hid hR
          replace hb := Lib.hid hb
          replace hrow := Lib.hid hrow
          clear hset
          go_wp2_with fail
          exact bodyPost_ret (results_tmp2 Tryz.results19 _ _ _) rfl ⟨_, _, rfl, (by rw [hR.out]; exact ⟨hrow.out, rfl⟩), hb.out⟩
  · rw [if_pos c0] at hq
    subst hq
    go_enter Tryz.func19, Tryz.ntmps19
    go_wp2
    go_step3
    go_wp2_with fail
    refine (hT.out).mono ?_; rintro e w1 ⟨v, rfl, hv, hb1⟩
    obtain ⟨_, hv2⟩ := hv.resolve_left (fun h => c0 h.1)
    obtain ⟨ty, u, rfl⟩ := hv2.iface
    replace hv2 := Lib.hid hv2
    replace hb1 := Lib.hid hb1
    clear hv
    go_wp2_with fail
    rw [Exit.noGoto_ret]
    exact bodyPost_ret (results_tmp2 Tryz.results19 _ _ _) rfl ⟨_, _, rfl, ⟨rfl, hv2.out⟩, hb1.out⟩
end Go.Proofs.YtpkkjoiglemlgaaGreatDoor

/-
  The names of entries, the document's (layer 13); rows of numbers compared (layer 11). No condition.
-/
namespace Go.Proofs.YtpkkjoiglemlgaaGreatDoor
set_option linter.unusedVariables false
open Go.ChangeShapes Go.WideShapes Go.ChangeAt Go.RowKit Go.Extern.Stop Go.Stop Go.Extern

theorem ent_at {w : World} {B n : Nat} {A : Option Addr} {its : List EItem} (h : Reads w B 4 A n (its.flatMap mk4)) (hl : its.length = n) {k : Nat} (hk : k < n) :
    ∃ ad it, A = some ad ∧ ad.block < B ∧ its[k]? = some it ∧ w.cell? (ad.add (k * 4)) = some (.int .i64 it.1.id.1) ∧ w.cell? ⟨(ad.add (k * 4)).block, (ad.add (k * 4)).off + 1, none⟩ = some (.int .i64 it.1.id.2) ∧ w.cell? ⟨(ad.add (k * 4)).block, (ad.add (k * 4)).off + 2, none⟩ = some it.2.1 ∧ w.cell? ⟨(ad.add (k * 4)).block, (ad.add (k * 4)).off + 3, none⟩ = some it.2.2 := by
  obtain ⟨ad, it, rfl, hab, hx, hf⟩ := h.fld (mk := mk4) (fun _ => rfl) hk hl
  refine ⟨ad, it, rfl, hab, hx, hf 0 _ rfl, ?_, ?_, ?_⟩
  · rw [off_add _ _ _ (by omega)]; exact hf 1 _ rfl
  · rw [off_add _ _ _ (by omega)]; exact hf 2 _ rfl
  · rw [off_add _ _ _ (by omega)]; exact hf 3 _ rfl
theorem op_parts {g t g' t' : Value} (h : (.agg #[g, t] : Value) = .agg #[g', t']) : g = g' ∧ t = t' := by
  injection h with h
  injection h with h
  injection h with h1 h
  injection h with h2 _
  exact ⟨h1, h2⟩
def idsOf (its : List EItem) : List (Int × Int) := its.map (·.1.id)
theorem idsOf_take {its : List EItem} {k : Nat} {it : EItem} (h : its[k]? = some it) : idsOf (its.take (k + 1)) = idsOf (its.take k) ++ [it.1.id] := by
  unfold idsOf
  rw [List.take_add_one, h]
  simp
set_option maxHeartbeats 1000000 in
set_option maxRecDepth 100000 in
theorem refIdsE_any {w : World} {A : Option Addr} {n cap : Nat} {its : List EItem} (hl : its.length = n) (hn : n ≤ 1000000) (hr : Reads w w.heap.size 4 A n (its.flatMap mk4)) :
    Calls Tryz.prog 33 #[.slice A n cap] w fun e w' => ∃ B c, e = .returned (.slice B (idsOf its).length c) ∧ w'.ownsRow w.heap.size 23 2 (.slice B (idsOf its).length c) (idsOf its).length ((idsOf its).flatMap idCells) ∧ Below w.heap.size w w' := by
  obtain ⟨i0, hi, hz0, hz1, hz2⟩ := info_parts infoId
  have hW1 : Below w.heap.size w (w.alloc (.cells #[] 23)) := (Below.refl _ _).alloc (Nat.le_refl _) _
  have O1 : (w.alloc (.cells #[] 23)).ownsRow w.heap.size 23 2 (.slice (some ⟨w.heap.size, 0, none⟩) 0 0) 0 [] := ⟨rfl, .inr ⟨w.heap.size, 0, #[], rfl, Nat.le_refl _, Blk.new _ _ _, Nat.le_refl _, Nat.zero_le _, rfl, rfl⟩⟩
  generalize hQ : idsOf its = Q at *
  replace hr := Lib.hid hr
  replace hW1 := Lib.hid hW1
  replace O1 := Lib.hid O1
  replace hQ := Lib.hid hQ
  replace hl := Lib.hid hl
  go_enter Tryz.func33, Tryz.ntmps33
  go_wp2_with fail
  go_loopw [3, 4] (fun v i wr => ∃ k : Nat, i = .int .i64 k ∧ k ≤ n ∧ wr.ownsRow w.heap.size 23 2 v (idsOf (its.take k)).length ((idsOf (its.take k)).flatMap idCells) ∧ Below w.heap.size w wr) (fun _ i _ => n + 1 - (intOf i).toNat)
  case atStart => exact ⟨0, rfl, Nat.zero_le _, by simpa [idsOf] using O1.out, hW1.out⟩
  case round =>
    obtain ⟨k, rfl, hk, hown, hb⟩ := hrel
    have hwz := hb.size
    by_cases hlt : k < n
    · obtain ⟨ad, it, rfl, hab, hx, c0, c1, _, _⟩ := ent_at (hr.out.below hb) hl.out hlt
      have hf := idsOf_take hx
      have hq1 : (idsOf (its.take k)).length ≤ 1000000 := by unfold idsOf; rw [List.length_map, List.length_take]; omega
      obtain ⟨⟨⟨x2, y2⟩, op⟩, gv, tv⟩ := it
      simp only at c0 c1 hf
      generalize idsOf (its.take k) = R at *
      replace hf := Lib.hid hf
      replace hx := Lib.hid hx
      go_wp2_with (at_builtin; go_loud (refine wpList_append_any _ rfl _ _ 57 rfl w.heap.size 23 i0 (.agg #[.int .i64 0, .int .i64 0]) 2 16 Tryz.underlying57 hi hz0 hz1 hz2 rfl (by decide) _ _ _ rfl (hown.alloc _) (wr.heap.size + 1) (some ⟨wr.heap.size, 0, none⟩) 1 1 [.int .i64 x2, .int .i64 y2] rfl (reads_two wr 23 (.int .i64 x2) (.int .i64 y2)) (by simp [Value.oneCell']) (by unfold maxLen; omega) (by omega) (by simp; omega) ?_; intro v' w5 hown5 hgrow hloc; have hb5 := own_belowI (Nat.le_refl _) (hb.alloc (by omega) (.cells #[.int .i64 x2, .int .i64 y2] 23)) (hown.alloc _) hgrow; have hown5 : w5.ownsRow w.heap.size 23 2 v' (R ++ [(x2, y2)]).length ((R ++ [(x2, y2)]).flatMap idCells) := (by simpa [idCells] using hown5); replace hb5 := Lib.hid hb5; replace hown5 := Lib.hid hown5))
      go_roundw
      case rel => exact ⟨k + 1, by go_num, by omega, by rw [hf.out]; exact hown5.out, hb5.out⟩
      case measure => simp [intOf] <;> omega
    · obtain rfl : k = n := by omega
      rw [List.take_of_length_le (by have := hl.out; omega), hQ.out] at hown
      obtain ⟨B, c, rfl⟩ := slice_ownE hown
      replace hown := Lib.hid hown
      go_wp2_with fail
      go_ret
      exact ⟨_, _, rfl, hown.out, hb⟩
set_option maxHeartbeats 1000000 in
set_option maxRecDepth 100000 in
theorem btIds_any {w : World} {A : Option Addr} {n cap : Nat} {its : List EItem} (hl : its.length = n) (hn : n ≤ 1000000) (hr : Reads w w.heap.size 4 A n (its.flatMap mk4)) (hop : ∀ it ∈ its, OpIs w (.agg #[it.2.1, it.2.2]) it.1.op) :
    Calls Tryz.prog 32 #[.slice A n cap] w fun e w' => ∃ B c, e = .returned (.slice B (idsOf its).length c) ∧ w'.ownsRow w.heap.size 23 2 (.slice B (idsOf its).length c) (idsOf its).length ((idsOf its).flatMap idCells) ∧ Below w.heap.size w w' := by
  obtain ⟨i0, hi, hz0, hz1, hz2⟩ := info_parts infoId
  have O1 : w.ownsRow w.heap.size 23 2 (.slice none 0 0) 0 [] := ⟨rfl, .inl ⟨rfl, rfl⟩⟩
  generalize hQ : idsOf its = Q at *
  replace hr := Lib.hid hr
  replace hop := Lib.hid hop
  replace O1 := Lib.hid O1
  replace hQ := Lib.hid hQ
  replace hl := Lib.hid hl
  go_enter Tryz.func32, Tryz.ntmps32
  go_wp2_with fail
  go_loopw [3, 8] (fun v i wr => ∃ k : Nat, i = .int .i64 k ∧ k ≤ n ∧ wr.ownsRow w.heap.size 23 2 v (idsOf (its.take k)).length ((idsOf (its.take k)).flatMap idCells) ∧ Below w.heap.size w wr) (fun _ i _ => n + 1 - (intOf i).toNat)
  case atStart => exact ⟨0, rfl, Nat.zero_le _, by simpa [idsOf] using O1.out, Below.refl _ _⟩
  case round =>
    obtain ⟨k, rfl, hk, hown, hb⟩ := hrel
    have hwz := hb.size
    by_cases hlt : k < n
    · obtain ⟨ad, it, rfl, hab, hx, c0, c1, c2, c3⟩ := ent_at (hr.out.below hb) hl.out hlt
      have hf := idsOf_take hx
      have hq1 : (idsOf (its.take k)).length ≤ 1000000 := by unfold idsOf; rw [List.length_map, List.length_take]; omega
      have hof := (hop.out it (List.mem_of_getElem? hx)).form
      obtain ⟨⟨⟨x2, y2⟩, op⟩, gv, tv⟩ := it
      obtain ⟨Ag, ng, cg, At, nt, ct, hof⟩ := hof
      obtain ⟨rfl, rfl⟩ := op_parts hof
      clear hof
      simp only at c0 c1 c2 c3 hf
      generalize idsOf (its.take k) = R at *
      replace hf := Lib.hid hf
      replace hx := Lib.hid hx
      have hownA := hown.alloc (.cells #[.int .i64 x2, .int .i64 y2, .slice Ag ng cg, .slice At nt ct] 64)
      have hbA := hb.alloc (by omega) (.cells #[.int .i64 x2, .int .i64 y2, .slice Ag ng cg, .slice At nt ct] 64)
      replace hownA := Lib.hid hownA
      replace hbA := Lib.hid hbA
      go_wp2_with (at_builtin; go_loud (refine wpList_append_any _ rfl _ _ 57 rfl w.heap.size 23 i0 (.agg #[.int .i64 0, .int .i64 0]) 2 16 Tryz.underlying57 hi hz0 hz1 hz2 rfl (by decide) _ _ _ rfl (hownA.out.alloc _) (wr.heap.size + 1 + 1) (some ⟨wr.heap.size + 1, 0, none⟩) 1 1 [.int .i64 x2, .int .i64 y2] rfl (by simpa using reads_two (wr.alloc (.cells #[.int .i64 x2, .int .i64 y2, .slice Ag ng cg, .slice At nt ct] 64)) 23 (.int .i64 x2) (.int .i64 y2)) (by simp [Value.oneCell']) (by unfold maxLen; omega) (by omega) (by simp; omega) ?_; intro v' w5 hown5 hgrow hloc; have hb5 := own_belowI (Nat.le_refl _) (hbA.out.alloc (by simp; omega) (.cells #[.int .i64 x2, .int .i64 y2] 23)) (hownA.out.alloc _) hgrow; have hown5 : w5.ownsRow w.heap.size 23 2 v' (R ++ [(x2, y2)]).length ((R ++ [(x2, y2)]).flatMap idCells) := (by simpa [idCells] using hown5); replace hb5 := Lib.hid hb5; replace hown5 := Lib.hid hown5))
      go_roundw
      case rel => exact ⟨k + 1, by go_num, by omega, by rw [hf.out]; exact hown5.out, hb5.out⟩
      case measure => simp [intOf] <;> omega
    · obtain rfl : k = n := by omega
      rw [List.take_of_length_le (by have := hl.out; omega), hQ.out] at hown
      obtain ⟨B, c, rfl⟩ := slice_ownE hown
      replace hown := Lib.hid hown
      go_wp2_with fail
      go_ret
      exact ⟨_, _, rfl, hown.out, hb⟩
theorem int_at {w : World} {B n : Nat} {A : Option Addr} {l : List Int} (h : Reads w B 1 A n (intL l)) (hl : l.length = n) {k : Nat} (hk : k < n) :
    ∃ ad z, A = some ad ∧ l[k]? = some z ∧ w.cell? (ad.add k) = some (.int .i64 z) := by
  obtain ⟨ad, h1, _, h3⟩ := h.2 (by omega)
  refine ⟨ad, l[k]'(by omega), h1, List.getElem?_eq_getElem (by omega), h3 k _ ?_⟩
  unfold intL
  rw [List.getElem?_map, List.getElem?_eq_getElem (by omega)]
  rfl
set_option maxHeartbeats 1000000 in
set_option maxRecDepth 100000 in
theorem ints_any {w : World} {A A2 : Option Addr} {n cap cap2 : Nat} {l : List Int} (hl : l.length = n) (hn : n ≤ 1000000) (hr : Reads w w.heap.size 1 A n (intL l)) (hr2 : Reads w w.heap.size 1 A2 n (intL l)) :
    Calls Tryz.prog 52 #[.slice A n cap, .slice A2 n cap2] w fun e w' => e = .returned (.bool true) ∧ Below w.heap.size w w' := by
  replace hr := Lib.hid hr
  replace hr2 := Lib.hid hr2
  replace hl := Lib.hid hl
  go_enter Tryz.func52, Tryz.ntmps52
  go_wp2_with fail
  go_loopw [5] (fun i wr => ∃ k : Nat, i = .int .i64 k ∧ k ≤ n ∧ Below w.heap.size w wr) (fun i _ => n + 1 - (intOf i).toNat)
  case atStart => exact ⟨0, rfl, Nat.zero_le _, Below.refl _ _⟩
  case round =>
    obtain ⟨k, rfl, hk, hb⟩ := hrel
    by_cases hlt : k < n
    · obtain ⟨ad, z, rfl, hx, c0⟩ := int_at (hr.out.below hb) hl.out hlt
      obtain ⟨ad2, z2, rfl, hx2, d0⟩ := int_at (hr2.out.below hb) hl.out hlt
      rw [hx] at hx2
      obtain rfl : z = z2 := by injection hx2
      replace hx := Lib.hid hx
      clear hx2
      go_wp2_with fail
      go_region
      go_wp2_with fail
      go_roundw
      case rel => exact ⟨k + 1, by go_num, by omega, hb.drew⟩
      case measure => simp [intOf] <;> omega
    · obtain rfl : k = n := by omega
      go_wp2_with fail
      go_ret
      exact ⟨rfl, hb⟩
end Go.Proofs.YtpkkjoiglemlgaaGreatDoor

/-
  The document's Parse of a batch (layer 13). No condition.
-/
namespace Go.Proofs.YtpkkjoiglemlgaaGreatDoor
set_option linter.unusedVariables false
open Go.ChangeShapes Go.WideShapes Go.ChangeAt Go.RowKit Go.Extern.Stop Go.Stop Go.Extern

/-- A row of numbers that lies somewhere. -/
def IntRow (W : World) (v : Value) (l : List Int) : Prop := ∃ A c, v = .slice A l.length c ∧ Reads W W.heap.size 1 A l.length (intL l)
theorem IntRow.below {W W' : World} {v : Value} {l : List Int} (h : IntRow W v l) (hb : Below W.heap.size W W') : IntRow W' v l := by
  obtain ⟨A, c, e, h1⟩ := h
  exact ⟨A, c, e, (h1.below hb).more hb.size⟩
theorem reads_ints (w : World) (l : List Int) : Reads (w.alloc (.cells (intL l).toArray 3)) (w.heap.size + 1) 1 (some ⟨w.heap.size, 0, none⟩) l.length (intL l) := by
  refine ⟨by simp [intL], fun _ => ⟨_, rfl, by show w.heap.size < w.heap.size + 1; omega, fun j u hu => ?_⟩⟩
  have h := (Blk.new w 3 (intL l).toArray).cell j
  have e : (⟨w.heap.size, 0, none⟩ : Addr).add j = ⟨w.heap.size, j, none⟩ := by unfold Addr.add; split <;> simp_all
  rw [e, h]
  simpa using hu
theorem intRow_new (w : World) (l : List Int) : IntRow (w.alloc (.cells (intL l).toArray 3)) (.slice (some ⟨w.heap.size, 0, none⟩) l.length l.length) l :=
  ⟨_, _, rfl, (reads_ints w l).more (by simp)⟩
theorem IntRow.cell {W : World} {v : Value} {l : List Int} (h : IntRow W v l) {p : Addr} (hp : ∀ A n c, v = .slice (some A) n c → A.block ≠ p.block) (u : Value) : IntRow (W.setCell p u) v l := by
  obtain ⟨A, c, e, h1, h2⟩ := h
  refine ⟨A, c, e, h1, fun h0 => ?_⟩
  obtain ⟨ad, k1, k2, k3⟩ := h2 h0
  subst k1
  have hbl : ∀ j, (ad.add j).block = ad.block := fun j => by unfold Addr.add; split <;> rfl
  refine ⟨ad, rfl, by simpa [World.setCell] using k2, fun j u' hu => ?_⟩
  rw [← k3 j u' hu]
  exact World.cell?_of_block (Below.heap_setCell W p u _ (by rw [hbl]; exact hp ad _ _ e))
/-- What the document's Parse answers. -/
def RpOut (w' : World) (B : Nat) (r : Except (Int × List Int) (List Ent)) (v wv : Value) : Prop := match r with
  | .error e => v = .slice none 0 0 ∧ ∃ pv, wv = .agg #[.int .i64 e.1, pv] ∧ IntRow w' pv e.2
  | .ok l => EntRow w' B v l ∧ wv = .agg #[.int .i64 0, .slice none 0 0]
theorem EntRow.cell {W : World} {B : Nat} {v : Value} {l : List Ent} (h : EntRow W B v l) {b : Nat} (hb : b < B) (i : Nat) (u : Value) : EntRow (W.setCell ⟨b, i, none⟩ u) B v l := by
  obtain ⟨its, h1, h2, h3⟩ := h
  exact ⟨its, h1, own_low h2 hb u, fun it hi => (h3 it hi).low hb u⟩
theorem EntRow.mono {W : World} {B B' : Nat} {v : Value} {l : List Ent} (h : EntRow W B v l) (hB : B' ≤ B) : EntRow W B' v l := by
  obtain ⟨its, h1, h2, h3⟩ := h
  exact ⟨its, h1, own_base h2 hB, fun it hi => (h3 it hi).mono hB⟩
/-- A store of a Wrong into the block of the answer: how it ends. -/
theorem wrong_end {w W : World} {r : Nat} {cs : Array Value} (hB : Blk W r 42 cs) (h2 : cs.size = 2) (hr : w.heap.size ≤ r) (hb : Below w.heap.size w W) (c : Int) (l : List Int) {pv : Value} (hp : IntRow W pv l) (hne : ∀ A n c, pv = .slice (some A) n c → A.block ≠ r) :
    Blk ((W.setCell ⟨r, 0, none⟩ (.int .i64 c)).setCell ⟨r, 1, none⟩ pv) r 42 #[.int .i64 c, pv] ∧ IntRow ((W.setCell ⟨r, 0, none⟩ (.int .i64 c)).setCell ⟨r, 1, none⟩ pv) pv l ∧ Below w.heap.size w ((W.setCell ⟨r, 0, none⟩ (.int .i64 c)).setCell ⟨r, 1, none⟩ pv) := by
  refine ⟨Blk.eq_cs (Blk.set_ (Blk.set_ hB 0 _) 1 _) ?_, (hp.cell hne _).cell hne _, (hb.setCell hr _).setCell hr _⟩
  obtain ⟨l⟩ := cs
  match l, h2 with
  | [a, b], _ => rfl
theorem wrong_drew {w W : World} {r : Nat} {cs : Array Value} {pv : Value} {l : List Int} (h : Blk W r 42 cs ∧ IntRow W pv l ∧ Below w.heap.size w W) : Blk W.drew r 42 cs ∧ IntRow W.drew pv l ∧ Below w.heap.size w W.drew :=
  ⟨h.1.drew, h.2.1.below ((Below.refl _ _).drew), h.2.2.drew⟩
set_option maxHeartbeats 4000000 in
set_option maxRecDepth 100000 in
theorem refBtParse_any {w : World} (s : ByteArray) (hs : s.size ≤ 1000000) :
    Calls Tryz.prog 20 #[.string s] w fun e w' => ∃ v wv, e = .returned (.tuple #[v, wv]) ∧ RpOut w' (w.heap.size + 1) (bParse s) v wv ∧ Below w.heap.size w w' := by
  obtain ⟨i0, hi, hz0, hz1, hz2⟩ := info_parts infoEn
  have hT := fun W => refTake_any W s 0 hs
  have hNm := fun W p => refName_any s p hs W
  have hTk := fun W p => refTakeO_any (w := W) s p hs
  have hq := bParse_eq s
  have hlt := tkn_lt s 0
  unfold cnt at hq
  generalize bParse s = R at *
  generalize tk s 0 = t at *
  obtain ⟨n, nx, c⟩ := t
  simp only at hT hq hlt
  replace hT := Lib.hid hT
  replace hNm := Lib.hid hNm
  replace hTk := Lib.hid hTk
  go_enter Tryz.func20, Tryz.ntmps20
  go_upto_region 1 with fail
  refine worldD (α := fun W' => Code.wp _ _ _ _ W') (fun W' => Blk W' w.heap.size 42 #[.int .i64 0, .slice none 0 0] ∧ Below w.heap.size w W') ⟨Blk.new _ _ _, (Below.refl _ _).alloc (Nat.le_refl _) _⟩ fun W0 hW0 => ?_
  obtain ⟨B0, hb0⟩ := hW0
  replace B0 := Lib.hid B0
  replace hb0 := Lib.hid hb0
  by_cases c0 : c = 0
  · subst c0
    rw [if_neg (by decide)] at hq
    by_cases h16 : 16 < n
    · rw [if_pos h16] at hq
      subst hq
      have d1 : decide ((16 : Int) < (n : Int)) = true := decide_eq_true (by omega)
      have f0 := (B0.out.alloc (.cells #[.int .i64 0] 3)).frozen 0
      have f1 := (B0.out.alloc (.cells #[.int .i64 0] 3)).frozen 1
      have x0 := (B0.out.alloc (.cells #[.int .i64 0] 3)).cell 0
      have x1 := (B0.out.alloc (.cells #[.int .i64 0] 3)).cell 1
      go_wp2_with fail
      refine (hT.out _).mono ?_; rintro e w1 ⟨rfl, rfl⟩
      go_wp2_with fail
      have hwe := wrong_end (w := w) (B0.out.alloc (.cells (intL [0]).toArray 3)) rfl (Nat.le_refl _) (hb0.out.alloc (by have := (hb0.out).size; omega) _) 3 [0] (intRow_new W0 [0]) (by intro A n c h; injection h with h; injection h with h; subst h; exact fun e => absurd B0.out.lt (by simp only at e; omega))
      replace hwe := Lib.hid hwe
      refine worldD (α := fun W' => bodyPost _ _ _ _ _ W') (fun W' => Blk W' w.heap.size 42 #[.int .i64 3, .slice (some ⟨W0.heap.size, 0, none⟩) 1 1] ∧ IntRow W' (.slice (some ⟨W0.heap.size, 0, none⟩) 1 1) [0] ∧ Below w.heap.size w W') (by first | exact hwe.out | exact wrong_drew hwe.out) fun WZ hWZ => ?_
      obtain ⟨k1, k2, k3⟩ := hWZ
      have z0 := k1.cell 0
      have z1 := k1.cell 1
      replace k2 := Lib.hid k2
      exact bodyPost_ret (v := .tuple #[.slice none 0 0, .agg #[.int .i64 3, .slice (some ⟨W0.heap.size, 0, none⟩) 1 1]]) (by simp [results, Tryz.results20, go_sem, z0, z1]) rfl ⟨_, _, rfl, (by exact ⟨rfl, _, rfl, k2.out⟩), k3⟩
    have d1 : decide ((16 : Int) < (n : Int)) = false := decide_eq_false (by omega)
    rw [if_neg h16] at hq
    simp only at hq
    have hwn : IntKind.i64.wrap (n : Int) = (n : Int) := by rw [IntKind.wrap_i64]; omega
    obtain ⟨Q, hQ⟩ : ∃ Q, bRow s n 0 nx [] = Q := ⟨_, rfl⟩
    rw [hQ] at hq
    replace hQ := Lib.hid hQ
    replace hq := Lib.hid hq
    go_wp2_with fail
    refine (hT.out _).mono ?_; rintro e w1 ⟨rfl, rfl⟩
    go_wp2_with fail
    have hr0 : EntRow (W0.alloc (.cells #[] 64)) (w.heap.size + 1) (.slice (some ⟨W0.heap.size, 0, none⟩) 0 0) [] := ⟨[], rfl, ⟨rfl, .inr ⟨W0.heap.size, 0, #[], rfl, B0.out.lt, Blk.new _ _ _, Nat.le_refl _, Nat.zero_le _, rfl, rfl⟩⟩, by simp⟩
    have B1 := B0.out.alloc (.cells #[] 64)
    have hb1 := hb0.out.alloc (by have := hb0.out.size; omega) (.cells #[] 64)
    replace hr0 := Lib.hid hr0
    replace B1 := Lib.hid B1
    replace hb1 := Lib.hid hb1
    go_loopw [5, 7, 8] (fun a out i wr => ∃ (k : Nat) (p : Int) (l : List Ent), i = .int .i64 k ∧ k ≤ n ∧ a = .int .i64 p ∧ l.length = k ∧ EntRow wr (w.heap.size + 1) out l ∧ Blk wr w.heap.size 42 #[.int .i64 0, .slice none 0 0] ∧ Hid (bRow s (n - k) k p l = Q) ∧ Below w.heap.size w wr) (fun _ _ i _ => n + 1 - (intOf i).toNat)
    case atStart => exact ⟨0, nx, [], rfl, Nat.zero_le _, rfl, rfl, hr0.out, B1.out, hQ, hb1.out⟩
    case round =>
      obtain ⟨k, p, l, rfl, hk, rfl, hl, hrow, B2, hQk, hb⟩ := hrel
      clear B1 hb1 hr0 hQ B0 hb0
      by_cases hkn : k < n
      · have hs1 : bRow s (n - k) k p l = match bEnt s p (l.map (·.id)) with
          | .error e => .error (e.1, (k : Int) :: e.2)
          | .ok x => bRow s (n - k - 1) (k + 1) x.2 (l ++ [x.1]) := by
          rw [show n - k = (n - k - 1) + 1 by omega]; rfl
        have hQ2 := hs1.symm.trans hQk.out
        clear hs1 hQk
        have hl2 : l.length < 17 := by omega
        have hEq : bEnt s p (l.map (·.id)) = match bName s p with
          | .error e => .error (e.1, [e.2])
          | .ok x => if x.1 ∈ l.map (·.id) then .error (6, [p]) else match pTake s x.2 with
            | .error e => .error (e.1, if e.2.2 < 0 then [e.2.1] else [e.2.2, e.2.1])
            | .ok o => .ok (⟨x.1, o.1⟩, o.2) := rfl
        have hne := fun e he => (cOk_idx (bName_ok (s := s) (p := p) (e := e) he)).2.2.1
        rw [hEq] at hQ2
        clear hEq
        replace hl := Lib.hid hl
        replace hb := Lib.hid hb
        replace B2 := Lib.hid B2
        have hN := hNm.out wr p
        cases hx : bName s p with
        | error e1 =>
          rw [hx] at hN hQ2
          simp only at hQ2
          obtain ⟨ec, ep⟩ := e1
          have hR : Hid (R = .error (ec, [(k : Int), ep])) := Lib.hid (by rw [hq.out, ← hQ2])
          have e0 : (ec == 0) = false := beq_eq_false_iff_ne.2 (hne _ hx)
          have e02 : ¬ ec = 0 := hne _ hx
          replace hN := Lib.hid hN
          replace hQ2 := Lib.hid hQ2
          replace hx := Lib.hid hx
          clear hrow hne
          unfold nmTold at hN
          simp only at hN
          go_wp2_with fail
          refine (hN.out).mono ?_; rintro e w4 ⟨rfl, hb4⟩
          have hbI : Below w4.heap.size w4 (w4.alloc (.cells #[.int .i64 0, .int .i64 0] 23)) := (Below.refl _ _).alloc (Nat.le_refl _) _
          have B5 := (B2.out.below hb4 B2.out.lt).below hbI (by have := B2.out.lt; have := hb4.size; omega)
          have hb5 := Below.next_ (Below.next_ hb.out hb4) hbI
          clear hb4 hbI
          go_upto_region 11 with fail
          refine worldD (α := fun W' => Code.wp _ _ _ _ W') (fun W' => Blk W' w.heap.size 42 #[.int .i64 0, .slice none 0 0] ∧ Below w.heap.size w W') ⟨B5, hb5⟩ fun W5 hW5 => ?_
          clear B5 hb5
          go_region
          go_upto_region 14 with fail
          refine worldD (α := fun W' => Code.wp _ _ _ _ W') (fun W' => Blk W' w.heap.size 42 #[.int .i64 0, .slice none 0 0] ∧ Below w.heap.size w W') ⟨hW5.1.drew, hW5.2.drew⟩ fun W6 hW6 => ?_
          clear hW5
          obtain ⟨B6, hb6⟩ := hW6
          replace B6 := Lib.hid B6
          replace hb6 := Lib.hid hb6
          have f0 := (B6.out.alloc (.cells #[.int .i64 (k : Int), .int .i64 ep] 3)).frozen 0
          have f1 := (B6.out.alloc (.cells #[.int .i64 (k : Int), .int .i64 ep] 3)).frozen 1
          have x0 := (B6.out.alloc (.cells #[.int .i64 (k : Int), .int .i64 ep] 3)).cell 0
          have x1 := (B6.out.alloc (.cells #[.int .i64 (k : Int), .int .i64 ep] 3)).cell 1
          go_wp2_with fail
          have hwe := wrong_end (w := w) (B6.out.alloc (.cells (intL [(k : Int), ep]).toArray 3)) rfl (Nat.le_refl _) (hb6.out.alloc (by have := (hb6.out).size; omega) _) ec [(k : Int), ep] (intRow_new W6 [(k : Int), ep]) (by intro A n c h; injection h with h; injection h with h; subst h; exact fun e => absurd B6.out.lt (by simp only at e; omega))
          replace hwe := Lib.hid hwe
          refine worldD (α := fun W' => bodyPost _ _ _ _ _ W') (fun W' => Blk W' w.heap.size 42 #[.int .i64 ec, .slice (some ⟨W6.heap.size, 0, none⟩) 2 2] ∧ IntRow W' (.slice (some ⟨W6.heap.size, 0, none⟩) 2 2) [(k : Int), ep] ∧ Below w.heap.size w W') (by first | exact hwe.out | exact wrong_drew hwe.out) fun WZ hWZ => ?_
          obtain ⟨k1, k2, k3⟩ := hWZ
          have z0 := k1.cell 0
          have z1 := k1.cell 1
          replace k2 := Lib.hid k2
          exact bodyPost_ret (v := .tuple #[.slice none 0 0, .agg #[.int .i64 ec, .slice (some ⟨W6.heap.size, 0, none⟩) 2 2]]) (by simp [results, Tryz.results20, go_sem, z0, z1]) rfl ⟨_, _, rfl, (by rw [hR.out]; exact ⟨rfl, _, rfl, k2.out⟩), k3⟩
        | ok x =>
          rw [hx] at hN hQ2
          obtain ⟨⟨i1, i2⟩, nx2⟩ := x
          simp only at hQ2
          unfold nmTold at hN
          simp only at hN
          replace hN := Lib.hid hN
          replace hx := Lib.hid hx
          clear hne
          obtain ⟨its, g1, g2, g3⟩ := hrow
          obtain ⟨A0, cp0, rfl⟩ := slice_ownE g2
          have gl : its.length = l.length := by rw [← g1]; simp
          obtain ⟨ids, hids⟩ : ∃ ids, l.map (·.id) = ids := ⟨_, rfl⟩
          have gids : idsOf its = ids := by rw [← hids, ← g1]; unfold idsOf; simp
          have hil : ids.length < 17 := by rw [← hids, List.length_map]; exact hl2
          rw [hids] at hQ2
          replace hids := Lib.hid hids
          replace g1 := Lib.hid g1
          replace g2 := Lib.hid g2
          replace g3 := Lib.hid g3
          replace gl := Lib.hid gl
          go_wp2_with fail
          refine (hN.out).mono ?_; rintro e w4 ⟨rfl, hb4⟩
          have hbI : Below w4.heap.size w4 (w4.alloc (.cells #[.int .i64 i1, .int .i64 i2] 23)) := (Below.refl _ _).alloc (Nat.le_refl _) _
          have B5 := (B2.out.below hb4 B2.out.lt).below hbI (by have := B2.out.lt; have := hb4.size; omega)
          have I5 := Blk.new w4 23 #[.int .i64 i1, .int .i64 i2]
          have hb5 := Below.next_ (Below.next_ hb.out hb4) hbI
          have hw5 : Below wr.heap.size wr (w4.alloc (.cells #[.int .i64 i1, .int .i64 i2] 23)) := Below.next_ hb4 hbI
          go_upto_region 11 with fail
          refine worldD (α := fun W' => Code.wp _ _ _ _ W') (fun W' => Blk W' w.heap.size 42 #[.int .i64 0, .slice none 0 0] ∧ Below w.heap.size w W' ∧ Blk W' w4.heap.size 23 #[.int .i64 i1, .int .i64 i2] ∧ Below wr.heap.size wr W') ⟨B5, hb5, I5, hw5⟩ fun W5 hW5 => ?_
          clear B5 hb5 I5 hw5 hb4 hbI
          obtain ⟨B5, hb5, I5, hw5⟩ := hW5
          generalize w4.heap.size = ib at *
          have g5 := (Reads.of_own (ownKeep g2.out fun g hg => hw5.drew.block g (World.ownsRow.lt g2.out g hg).2))
          have hId := refIdsE_any (cap := cp0) gl.out (by omega) g5
          rw [gids] at hId
          replace B5 := Lib.hid B5.drew
          replace I5 := Lib.hid I5.drew
          replace hb5 := Lib.hid hb5.drew
          replace hw5 := Lib.hid hw5.drew
          replace hId := Lib.hid hId
          replace gids := Lib.hid gids
          clear g5
          refine wp_region_lex [(true, 0), (true, 1), (true, 2), (true, 3), (true, 5), (false, 4), (false, 6), (true, 7)] (fun W : World => W.cell? ⟨ib, 0, none⟩ = some (.int .i64 i1) ∧ W.cell? ⟨ib, 1, none⟩ = some (.int .i64 i2)) (by kernel_rfl) (by kernel_rfl) (fun R hR => ?_)
          have hHeld : (fun W : World => W.cell? ⟨ib, 0, none⟩ = some (.int .i64 i1) ∧ W.cell? ⟨ib, 1, none⟩ = some (.int .i64 i2)) W5.drew := ⟨I5.out.cell 0, I5.out.cell 1⟩
          repeat (first | (refine lex_take (v := ?_) rfl (by rfl) (by assumption) ?_ ?_; rotate_left 1; (focus (intro w hSw; (try dsimp only at hSw); go_simp; (try with_reducible rfl))); (try simp only [Act.put, List.setIfInBounds_toArray, List.set_cons_zero, List.set_cons_succ])) | (refine lex_pass rfl (by rfl) (by assumption) ?_; (try simp only [Act.put, List.setIfInBounds_toArray, List.set_cons_zero, List.set_cons_succ])))
          (refine lex_call rfl (by rfl) (fun K hq => ?_); go_simp)
          go_at_call 33
          refine (hId.out).mono ?_; rintro e w6 ⟨IB, ic, rfl, hown6, hb6⟩
          have I6 := I5.out.below hb6 I5.out.lt
          have B6 := B5.out.below hb6 B5.out.lt
          have hw6 := Below.next_ hw5.out hb6
          have hb6' := Below.next_ hb5.out hb6
          have hHas := refHas_any (cap := ic) rfl (by omega) (Reads.of_own hown6) i1 i2
          clear hHeld hb6 hown6
          have hHeld : (fun W : World => W.cell? ⟨ib, 0, none⟩ = some (.int .i64 i1) ∧ W.cell? ⟨ib, 1, none⟩ = some (.int .i64 i2)) w6 := ⟨I6.cell 0, I6.cell 1⟩
          replace I6 := Lib.hid I6
          replace B6 := Lib.hid B6
          replace hw6 := Lib.hid hw6
          replace hb6' := Lib.hid hb6'
          replace hHas := Lib.hid hHas
          go_wp2_with fail
          (refine hq.out _ _ (fun W : World => W.cell? ⟨ib, 0, none⟩ = some (.int .i64 i1) ∧ W.cell? ⟨ib, 1, none⟩ = some (.int .i64 i2)) (fun _ h => h) hHeld ?_; clear hq K; (try simp only [Act.put, List.setIfInBounds_toArray, List.set_cons_zero, List.set_cons_succ]))
          repeat (first | (refine lex_take (v := ?_) rfl (by rfl) (by assumption) ?_ ?_; rotate_left 1; (focus (intro w hSw; (try dsimp only at hSw); go_simp; (try with_reducible rfl))); (try simp only [Act.put, List.setIfInBounds_toArray, List.set_cons_zero, List.set_cons_succ])) | (refine lex_pass rfl (by rfl) (by assumption) ?_; (try simp only [Act.put, List.setIfInBounds_toArray, List.set_cons_zero, List.set_cons_succ])))
          (refine lex_call rfl (by rfl) (fun K hq => ?_); go_simp)
          go_at_call 49
          refine (hHas.out).mono ?_; rintro e w7 ⟨rfl, hb7⟩
          have I7 := I6.out.below hb7 I6.out.lt
          have B7 := B6.out.below hb7 B6.out.lt
          have hw7 := Below.next_ hw6.out hb7
          have hb7' := Below.next_ hb6'.out hb7
          clear hHeld hb7
          have hHeld : (fun W : World => W.cell? ⟨ib, 0, none⟩ = some (.int .i64 i1) ∧ W.cell? ⟨ib, 1, none⟩ = some (.int .i64 i2)) w7 := ⟨I7.cell 0, I7.cell 1⟩
          replace I7 := Lib.hid I7
          replace B7 := Lib.hid B7
          replace hw7 := Lib.hid hw7
          replace hb7' := Lib.hid hb7'
          clear hHas hId B6 I6 hw6 hb6' B5 I5 hw5 hb5 B2
          go_wp2_with fail
          (refine hq.out _ _ (fun W : World => W.cell? ⟨ib, 0, none⟩ = some (.int .i64 i1) ∧ W.cell? ⟨ib, 1, none⟩ = some (.int .i64 i2)) (fun _ h => h) hHeld ?_; clear hq K; (try simp only [Act.put, List.setIfInBounds_toArray, List.set_cons_zero, List.set_cons_succ]))
          repeat (first | (refine lex_take (v := ?_) rfl (by rfl) (by assumption) ?_ ?_; rotate_left 1; (focus (intro w hSw; (try dsimp only at hSw); go_simp; (try with_reducible rfl))); (try simp only [Act.put, List.setIfInBounds_toArray, List.set_cons_zero, List.set_cons_succ])) | (refine lex_pass rfl (by rfl) (by assumption) ?_; (try simp only [Act.put, List.setIfInBounds_toArray, List.set_cons_zero, List.set_cons_succ])))
          refine lex_end ?_
          refine hR.out _ _ ?_
          clear hR R hHeld
          by_cases hm : (i1, i2) ∈ ids
          · rw [if_pos hm] at hQ2
            simp only at hQ2
            have hR : Hid (R = .error (6, [(k : Int), p])) := Lib.hid (by rw [hq.out, ← hQ2])
            have hd : decide ((i1, i2) ∈ ids) = true := decide_eq_true hm
            replace hQ2 := Lib.hid hQ2
            have f0 := (B7.out.alloc (.cells #[.int .i64 (k : Int), .int .i64 p] 3)).frozen 0
            have f1 := (B7.out.alloc (.cells #[.int .i64 (k : Int), .int .i64 p] 3)).frozen 1
            have x0 := (B7.out.alloc (.cells #[.int .i64 (k : Int), .int .i64 p] 3)).cell 0
            have x1 := (B7.out.alloc (.cells #[.int .i64 (k : Int), .int .i64 p] 3)).cell 1
            go_wp2_with fail
            have hwe := wrong_end (w := w) (B7.out.alloc (.cells (intL [(k : Int), p]).toArray 3)) rfl (Nat.le_refl _) (hb7'.out.alloc (by have := (hb7'.out).size; omega) _) 6 [(k : Int), p] (intRow_new w7 [(k : Int), p]) (by intro A n c h; injection h with h; injection h with h; subst h; exact fun e => absurd B7.out.lt (by simp only at e; omega))
            replace hwe := Lib.hid hwe
            refine worldD (α := fun W' => bodyPost _ _ _ _ _ W') (fun W' => Blk W' w.heap.size 42 #[.int .i64 6, .slice (some ⟨w7.heap.size, 0, none⟩) 2 2] ∧ IntRow W' (.slice (some ⟨w7.heap.size, 0, none⟩) 2 2) [(k : Int), p] ∧ Below w.heap.size w W') (by first | exact hwe.out | exact wrong_drew hwe.out) fun WZ hWZ => ?_
            obtain ⟨k1, k2, k3⟩ := hWZ
            have z0 := k1.cell 0
            have z1 := k1.cell 1
            replace k2 := Lib.hid k2
            exact bodyPost_ret (v := .tuple #[.slice none 0 0, .agg #[.int .i64 6, .slice (some ⟨w7.heap.size, 0, none⟩) 2 2]]) (by simp [results, Tryz.results20, go_sem, z0, z1]) rfl ⟨_, _, rfl, (by rw [hR.out]; exact ⟨rfl, _, rfl, k2.out⟩), k3⟩
          · rw [if_neg hm] at hQ2
            have hd : decide ((i1, i2) ∈ ids) = false := decide_eq_false hm
            have hT2 := hTk.out w7 nx2
            cases hp : pTake s nx2 with
            | error e2 =>
              rw [hp] at hT2 hQ2
              have hco := cOk_idx (pTake_cOk hp).1
              obtain ⟨ec, ea, ept⟩ := e2
              simp only at hQ2 hco
              have hec : (ec == 0) = false := beq_eq_false_iff_ne.2 hco.2.2.1
              have hec2 : ¬ ec = 0 := hco.2.2.1
              clear hco
              replace hT2 := Lib.hid hT2
              replace hp := Lib.hid hp
              by_cases hpt : ept < 0
              · rw [if_pos hpt] at hQ2
                have hR : Hid (R = .error (ec, [(k : Int), ea])) := Lib.hid (by rw [hq.out, ← hQ2])
                have dpt : decide (ept < 0) = true := decide_eq_true hpt
                replace hQ2 := Lib.hid hQ2
                go_wp2_with fail
                refine (hT2.out).mono ?_; rintro e w8 ⟨v, nxv, wv, rfl, ⟨rfl, rfl, rfl⟩, hb8⟩
                have hbX : Below w8.heap.size w8 ((w8.alloc (.cells #[.slice none 0 0, .slice none 0 0] 62)).alloc (.cells #[.int .i64 ec, .int .i64 ea, .int .i64 ept] 88)) := ((Below.refl _ _).alloc (Nat.le_refl _) _).alloc (by simp) _
                have BX := (B7.out.below hb8 B7.out.lt).below hbX (by have := B7.out.lt; have := hb8.size; omega)
                have hbW := Below.next_ (Below.next_ hb7'.out hb8) hbX
                have YX := Blk.new (w8.alloc (.cells #[.slice none 0 0, .slice none 0 0] 62)) 88 #[.int .i64 ec, .int .i64 ea, .int .i64 ept]
                rw [World.size_alloc] at YX
                replace BX := Lib.hid BX
                replace hbW := Lib.hid hbW
                replace YX := Lib.hid YX
                unfold zeroOp
                go_upto_region 17 with fail
                refine worldD (α := fun W' => Code.wp _ _ _ _ W') (fun W' => Blk W' w.heap.size 42 #[.int .i64 0, .slice none 0 0] ∧ Below w.heap.size w W' ∧ Blk W' (w8.heap.size + 1) 88 #[.int .i64 ec, .int .i64 ea, .int .i64 ept]) ⟨BX.out, hbW.out, YX.out⟩ fun W9 hW9 => ?_
                clear hbX hb8 BX hbW YX
                obtain ⟨BX, hbW, YX⟩ := hW9
                generalize w8.heap.size + 1 = yb at *
                have y0 := YX.cell 0
                have y1 := YX.cell 1
                have y2 := YX.cell 2
                have y3 := (YX.alloc (.cells #[.int .i64 (k : Int), .int .i64 ea] 3)).cell 0
                have y4 := (YX.alloc (.cells #[.int .i64 (k : Int), .int .i64 ea] 3)).cell 1
                have y5 := (YX.alloc (.cells #[.int .i64 (k : Int), .int .i64 ea] 3)).cell 2
                have hny1 : ¬ w.heap.size = yb := fun e => Blk.ne_ BX YX (by decide) e
                have hny2 : ¬ yb = w.heap.size := fun e => Blk.ne_ BX YX (by decide) e.symm
                clear YX
                have f0 := (BX.alloc (.cells #[.int .i64 (k : Int), .int .i64 ea] 3)).frozen 0
                have f1 := (BX.alloc (.cells #[.int .i64 (k : Int), .int .i64 ea] 3)).frozen 1
                have x0 := (BX.alloc (.cells #[.int .i64 (k : Int), .int .i64 ea] 3)).cell 0
                have x1 := (BX.alloc (.cells #[.int .i64 (k : Int), .int .i64 ea] 3)).cell 1
                replace BX := Lib.hid BX
                replace hbW := Lib.hid hbW
                go_upto_region 18 with fail
                go_region
                go_wp2_with fail
                have hwe := wrong_end (w := w) (BX.out.alloc (.cells (intL [(k : Int), ea]).toArray 3)) rfl (Nat.le_refl _) (hbW.out.alloc (by have := (hbW.out).size; omega) _) ec [(k : Int), ea] (intRow_new W9 [(k : Int), ea]) (by intro A n c h; injection h with h; injection h with h; subst h; exact fun e => absurd BX.out.lt (by simp only at e; omega))
                replace hwe := Lib.hid hwe
                refine worldD (α := fun W' => bodyPost _ _ _ _ _ W') (fun W' => Blk W' w.heap.size 42 #[.int .i64 ec, .slice (some ⟨W9.heap.size, 0, none⟩) 2 2] ∧ IntRow W' (.slice (some ⟨W9.heap.size, 0, none⟩) 2 2) [(k : Int), ea] ∧ Below w.heap.size w W') (by first | exact hwe.out | exact wrong_drew hwe.out) fun WZ hWZ => ?_
                obtain ⟨k1, k2, k3⟩ := hWZ
                have z0 := k1.cell 0
                have z1 := k1.cell 1
                replace k2 := Lib.hid k2
                exact bodyPost_ret (v := .tuple #[.slice none 0 0, .agg #[.int .i64 ec, .slice (some ⟨W9.heap.size, 0, none⟩) 2 2]]) (by simp [results, Tryz.results20, go_sem, z0, z1]) rfl ⟨_, _, rfl, (by rw [hR.out]; exact ⟨rfl, _, rfl, k2.out⟩), k3⟩
              · rw [if_neg hpt] at hQ2
                have hR : Hid (R = .error (ec, [(k : Int), ept, ea])) := Lib.hid (by rw [hq.out, ← hQ2])
                have dpt : decide (ept < 0) = false := decide_eq_false hpt
                replace hQ2 := Lib.hid hQ2
                go_wp2_with fail
                refine (hT2.out).mono ?_; rintro e w8 ⟨v, nxv, wv, rfl, ⟨rfl, rfl, rfl⟩, hb8⟩
                have hbX : Below w8.heap.size w8 ((w8.alloc (.cells #[.slice none 0 0, .slice none 0 0] 62)).alloc (.cells #[.int .i64 ec, .int .i64 ea, .int .i64 ept] 88)) := ((Below.refl _ _).alloc (Nat.le_refl _) _).alloc (by simp) _
                have BX := (B7.out.below hb8 B7.out.lt).below hbX (by have := B7.out.lt; have := hb8.size; omega)
                have hbW := Below.next_ (Below.next_ hb7'.out hb8) hbX
                have YX := Blk.new (w8.alloc (.cells #[.slice none 0 0, .slice none 0 0] 62)) 88 #[.int .i64 ec, .int .i64 ea, .int .i64 ept]
                rw [World.size_alloc] at YX
                replace BX := Lib.hid BX
                replace hbW := Lib.hid hbW
                replace YX := Lib.hid YX
                unfold zeroOp
                go_upto_region 17 with fail
                refine worldD (α := fun W' => Code.wp _ _ _ _ W') (fun W' => Blk W' w.heap.size 42 #[.int .i64 0, .slice none 0 0] ∧ Below w.heap.size w W' ∧ Blk W' (w8.heap.size + 1) 88 #[.int .i64 ec, .int .i64 ea, .int .i64 ept]) ⟨BX.out, hbW.out, YX.out⟩ fun W9 hW9 => ?_
                clear hbX hb8 BX hbW YX
                obtain ⟨BX, hbW, YX⟩ := hW9
                generalize w8.heap.size + 1 = yb at *
                have y0 := YX.cell 0
                have y1 := YX.cell 1
                have y2 := YX.cell 2
                have y3 := (YX.alloc (.cells #[.int .i64 (k : Int), .int .i64 ept, .int .i64 ea] 3)).cell 0
                have y4 := (YX.alloc (.cells #[.int .i64 (k : Int), .int .i64 ept, .int .i64 ea] 3)).cell 1
                have y5 := (YX.alloc (.cells #[.int .i64 (k : Int), .int .i64 ept, .int .i64 ea] 3)).cell 2
                have hny1 : ¬ w.heap.size = yb := fun e => Blk.ne_ BX YX (by decide) e
                have hny2 : ¬ yb = w.heap.size := fun e => Blk.ne_ BX YX (by decide) e.symm
                clear YX
                have f0 := (BX.alloc (.cells #[.int .i64 (k : Int), .int .i64 ept, .int .i64 ea] 3)).frozen 0
                have f1 := (BX.alloc (.cells #[.int .i64 (k : Int), .int .i64 ept, .int .i64 ea] 3)).frozen 1
                have x0 := (BX.alloc (.cells #[.int .i64 (k : Int), .int .i64 ept, .int .i64 ea] 3)).cell 0
                have x1 := (BX.alloc (.cells #[.int .i64 (k : Int), .int .i64 ept, .int .i64 ea] 3)).cell 1
                replace BX := Lib.hid BX
                replace hbW := Lib.hid hbW
                go_upto_region 20 with fail
                go_region
                go_wp2_with fail
                have hwe := wrong_end (w := w) (BX.out.alloc (.cells (intL [(k : Int), ept, ea]).toArray 3)) rfl (Nat.le_refl _) (hbW.out.alloc (by have := (hbW.out).size; omega) _) ec [(k : Int), ept, ea] (intRow_new W9 [(k : Int), ept, ea]) (by intro A n c h; injection h with h; injection h with h; subst h; exact fun e => absurd BX.out.lt (by simp only at e; omega))
                replace hwe := Lib.hid hwe
                refine worldD (α := fun W' => bodyPost _ _ _ _ _ W') (fun W' => Blk W' w.heap.size 42 #[.int .i64 ec, .slice (some ⟨W9.heap.size, 0, none⟩) 3 3] ∧ IntRow W' (.slice (some ⟨W9.heap.size, 0, none⟩) 3 3) [(k : Int), ept, ea] ∧ Below w.heap.size w W') (by first | exact hwe.out | exact wrong_drew hwe.out) fun WZ hWZ => ?_
                obtain ⟨k1, k2, k3⟩ := hWZ
                have z0 := k1.cell 0
                have z1 := k1.cell 1
                replace k2 := Lib.hid k2
                exact bodyPost_ret (v := .tuple #[.slice none 0 0, .agg #[.int .i64 ec, .slice (some ⟨W9.heap.size, 0, none⟩) 3 3]]) (by simp [results, Tryz.results20, go_sem, z0, z1]) rfl ⟨_, _, rfl, (by rw [hR.out]; exact ⟨rfl, _, rfl, k2.out⟩), k3⟩
            | ok x2 =>
              rw [hp] at hT2 hQ2
              obtain ⟨op, nx3⟩ := x2
              simp only at hQ2
              have hQ3 : Hid (bRow s (n - (k + 1)) (k + 1) nx3 (l ++ [⟨(i1, i2), op⟩]) = Q) := Lib.hid (by rw [← hQ2]; congr 1)
              replace hQ2 := Lib.hid hQ2
              replace hT2 := Lib.hid hT2
              replace hp := Lib.hid hp
              go_wp2_with fail
              refine (hT2.out).mono ?_; rintro e w8 ⟨v, nxv, wv, rfl, ⟨ho, rfl, rfl⟩, hb8⟩
              obtain ⟨Ag, ng, cg, At, nt, ct, rfl⟩ := ho.is.form
              have hbX : Below w8.heap.size w8 (((w8.alloc (.cells #[.slice Ag ng cg, .slice At nt ct] 62)).alloc (.cells #[.int .i64 0, .int .i64 0, .int .i64 (-1)] 88)).alloc (.cells #[.int .i64 i1, .int .i64 i2, .slice Ag ng cg, .slice At nt ct] 64)) := (((Below.refl _ _).alloc (Nat.le_refl _) _).alloc (by simp) _).alloc (by simp; omega) _
              have hbX2 : Below w8.heap.size w8 ((w8.alloc (.cells #[.slice Ag ng cg, .slice At nt ct] 62)).alloc (.cells #[.int .i64 0, .int .i64 0, .int .i64 (-1)] 88)) := ((Below.refl _ _).alloc (Nat.le_refl _) _).alloc (by simp) _
              have hwX := Below.next_ (Below.next_ hw7.out hb8) hbX
              have hbW := Below.next_ (Below.next_ hb7'.out hb8) hbX
              have hg2 := ownKeep g2.out fun g hg => hwX.block g (World.ownsRow.lt g2.out g hg).2
              have g4 := fun it hi => (g3.out it hi).below hwX
              have hsz7 := hb7'.out.size
              have hlt7 := B7.out.lt
              have ho2 := (ho.mono (show w.heap.size + 1 ≤ w7.heap.size by omega)).below hbX
              have BX := (B7.out.below hb8 B7.out.lt).below hbX (by have := hb8.size; omega)
              have IX := (I7.out.below hb8 I7.out.lt).below hbX2 (by have := I7.out.lt; have := hb8.size; omega)
              have i0' := IX.cell 0
              have i1' := IX.cell 1
              have hsz8 := hb8.size
              replace hg2 := Lib.hid hg2
              replace g4 := Lib.hid g4
              replace ho2 := Lib.hid ho2
              replace BX := Lib.hid BX
              replace hbW := Lib.hid hbW
              clear hbX hbX2 hwX ho hb8 IX
              go_wp2_with (at_builtin; go_loud (refine wpList_append_any _ rfl _ _ 37 rfl (w.heap.size + 1) 64 i0 (.agg #[.int .i64 0, .int .i64 0, .slice none 0 0, .slice none 0 0]) 4 64 Tryz.underlying37 hi hz0 hz1 hz2 rfl (by decide) _ _ _ rfl hg2.out (w8.heap.size + 1 + 1 + 1) (some ⟨w8.heap.size + 1 + 1, 0, none⟩) 1 1 [.int .i64 i1, .int .i64 i2, .slice Ag ng cg, .slice At nt ct] rfl (by simpa using reads_four ((w8.alloc (.cells #[.slice Ag ng cg, .slice At nt ct] 62)).alloc (.cells #[.int .i64 0, .int .i64 0, .int .i64 (-1)] 88)) 64 (.int .i64 i1) (.int .i64 i2) (.slice Ag ng cg) (.slice At nt ct)) (by simp [Value.oneCell']) (by unfold maxLen; omega) (by omega) (by simp; omega) ?_; intro v' w5 hown5 hgrow hloc; have hr5 := EntRow.snoc (x := ⟨(i1, i2), op⟩) its g1.out hg2.out g4.out ho2.out hown5 hgrow; have hb6 := own_belowI (by have := hbW.out.size; omega) hbW.out (own_base hg2.out (Nat.le_succ _)) hgrow; have B6 : Blk w5 w.heap.size 42 #[.int .i64 0, .slice none 0 0] := (BX.out.keep (hgrow.block _ BX.out.lt fun e => absurd (World.ownsRow.lt hg2.out _ e.symm).1 (by omega))); replace hr5 := Lib.hid hr5; replace hb6 := Lib.hid hb6; replace B6 := Lib.hid B6))
              go_roundw
              case rel => exact ⟨k + 1, nx3, l ++ [⟨(i1, i2), op⟩], by go_num, by omega, rfl, by simp [hl.out], hr5.out, B6.out, hQ3, hb6.out⟩
              case measure => simp [intOf] <;> omega
      · obtain rfl : k = n := by omega
        have hQ2 : Q = .ok (l, p) := by rw [← hQk.out, Nat.sub_self]; rfl
        have hR := hq.out
        rw [hQ2] at hR
        simp only at hR
        subst hl
        obtain ⟨A0, cp0, rfl⟩ := hrow.len
        replace hQ2 := Lib.hid hQ2
        replace B2 := Lib.hid B2
        replace hb := Lib.hid hb
        by_cases hp : p < (s.size : Int)
        · rw [if_pos hp] at hR
          have d2 : decide (p < (s.size : Int)) = true := decide_eq_true hp
          replace hR := Lib.hid hR
          clear hrow
          have f0 := (B2.out.alloc (.cells #[.int .i64 p] 3)).frozen 0
          have f1 := (B2.out.alloc (.cells #[.int .i64 p] 3)).frozen 1
          have x0 := (B2.out.alloc (.cells #[.int .i64 p] 3)).cell 0
          have x1 := (B2.out.alloc (.cells #[.int .i64 p] 3)).cell 1
          go_wp2_with fail
          have hwe := wrong_end (w := w) (B2.out.alloc (.cells (intL [p]).toArray 3)) rfl (Nat.le_refl _) (hb.out.alloc (by have := (hb.out).size; omega) _) 3 [p] (intRow_new wr [p]) (by intro A n c h; injection h with h; injection h with h; subst h; exact fun e => absurd B2.out.lt (by simp only at e; omega))
          replace hwe := Lib.hid hwe
          refine worldD (α := fun W' => bodyPost _ _ _ _ _ W') (fun W' => Blk W' w.heap.size 42 #[.int .i64 3, .slice (some ⟨wr.heap.size, 0, none⟩) 1 1] ∧ IntRow W' (.slice (some ⟨wr.heap.size, 0, none⟩) 1 1) [p] ∧ Below w.heap.size w W') (by first | exact hwe.out | exact wrong_drew hwe.out) fun WZ hWZ => ?_
          obtain ⟨k1, k2, k3⟩ := hWZ
          have z0 := k1.cell 0
          have z1 := k1.cell 1
          replace k2 := Lib.hid k2
          exact bodyPost_ret (v := .tuple #[.slice none 0 0, .agg #[.int .i64 3, .slice (some ⟨wr.heap.size, 0, none⟩) 1 1]]) (by simp [results, Tryz.results20, go_sem, z0, z1]) rfl ⟨_, _, rfl, (by rw [hR.out]; exact ⟨rfl, _, rfl, k2.out⟩), k3⟩
        · rw [if_neg hp] at hR
          have d2 : decide (p < (s.size : Int)) = false := decide_eq_false hp
          replace hR := Lib.hid hR
          replace hrow := Lib.hid hrow
          have f0 := B2.out.frozen 0
          have f1 := B2.out.frozen 1
          have x0 := B2.out.cell 0
          have x1 := B2.out.cell 1
          go_wp2_with fail
          refine worldD (α := fun W' => bodyPost _ _ _ _ _ W') (fun W' => Blk W' w.heap.size 42 #[.int .i64 0, .slice none 0 0] ∧ EntRow W' (w.heap.size + 1) (.slice A0 l.length cp0) l ∧ Below w.heap.size w W') ⟨Blk.eq_cs (Blk.set_ (Blk.set_ B2.out 0 _) 1 _) rfl, (hrow.out.cell (Nat.lt_succ_self _) 0 _).cell (Nat.lt_succ_self _) 1 _, (hb.out.setCell (Nat.le_refl _) _).setCell (Nat.le_refl _) _⟩ fun W9 hW9 => ?_
          obtain ⟨k1, k2, k3⟩ := hW9
          have z0 := k1.cell 0
          have z1 := k1.cell 1
          replace k2 := Lib.hid k2
          exact bodyPost_ret (v := .tuple #[.slice A0 l.length cp0, .agg #[.int .i64 0, .slice none 0 0]]) (by simp [results, Tryz.results20, go_sem, z0, z1]) rfl ⟨_, _, rfl, (by rw [hR.out]; exact ⟨k2.out, rfl⟩), k3⟩
  · rw [if_pos c0] at hq
    subst hq
    have e0 : (c == 0) = false := beq_eq_false_iff_ne.2 c0
    have f0 := (B0.out.alloc (.cells #[.int .i64 0] 3)).frozen 0
    have f1 := (B0.out.alloc (.cells #[.int .i64 0] 3)).frozen 1
    have x0 := (B0.out.alloc (.cells #[.int .i64 0] 3)).cell 0
    have x1 := (B0.out.alloc (.cells #[.int .i64 0] 3)).cell 1
    go_wp2_with fail
    refine (hT.out _).mono ?_; rintro e w1 ⟨rfl, rfl⟩
    go_wp2_with fail
    have hwe := wrong_end (w := w) (B0.out.alloc (.cells (intL [0]).toArray 3)) rfl (Nat.le_refl _) (hb0.out.alloc (by have := (hb0.out).size; omega) _) c [0] (intRow_new W0 [0]) (by intro A n c h; injection h with h; injection h with h; subst h; exact fun e => absurd B0.out.lt (by simp only at e; omega))
    replace hwe := Lib.hid hwe
    refine worldD (α := fun W' => bodyPost _ _ _ _ _ W') (fun W' => Blk W' w.heap.size 42 #[.int .i64 c, .slice (some ⟨W0.heap.size, 0, none⟩) 1 1] ∧ IntRow W' (.slice (some ⟨W0.heap.size, 0, none⟩) 1 1) [0] ∧ Below w.heap.size w W') (by first | exact hwe.out | exact wrong_drew hwe.out) fun WZ hWZ => ?_
    obtain ⟨k1, k2, k3⟩ := hWZ
    have z0 := k1.cell 0
    have z1 := k1.cell 1
    replace k2 := Lib.hid k2
    exact bodyPost_ret (v := .tuple #[.slice none 0 0, .agg #[.int .i64 c, .slice (some ⟨W0.heap.size, 0, none⟩) 1 1]]) (by simp [results, Tryz.results20, go_sem, z0, z1]) rfl ⟨_, _, rfl, (by exact ⟨rfl, _, rfl, k2.out⟩), k3⟩
end Go.Proofs.YtpkkjoiglemlgaaGreatDoor

/-
  Rows of entries compared by the document; the law's Wrong (layer 13).
-/
namespace Go.Proofs.YtpkkjoiglemlgaaGreatDoor
set_option linter.unusedVariables false
open Go.ChangeShapes Go.WideShapes Go.ChangeAt Go.RowKit Go.Extern.Stop Go.Stop Go.Extern

/-- An operation as a value, its parts not too many. -/
def OpL (w : World) (v : Value) (o : OOp) : Prop := OpIs w v o ∧ o.guards.length ≤ maxLen ∧ o.steps.length ≤ maxLen
theorem OpL.below {w w' : World} {v : Value} {o : OOp} (h : OpL w v o) (hb : Below w.heap.size w w') : OpL w' v o := ⟨h.1.below hb, h.2⟩
/-- A row of entries that lies somewhere. -/
def ERow (w : World) (v : Value) (l : List Ent) : Prop := ∃ A cap its, v = .slice A l.length cap ∧ its.map (·.1) = l ∧ Reads w w.heap.size 4 A l.length (List.flatMap mk4 its) ∧ ∀ it ∈ its, OpL w (.agg #[it.2.1, it.2.2]) it.1.op
theorem ERow.below {w w' : World} {v : Value} {l : List Ent} (h : ERow w v l) (hb : Below w.heap.size w w') : ERow w' v l := by
  obtain ⟨A, cap, its, e, h1, h2, h3⟩ := h
  exact ⟨A, cap, its, e, h1, (h2.below hb).more hb.size, fun it hi => (h3 it hi).below hb⟩
theorem own_max {w : World} {B size n : Nat} {te : TypeId} {v : Value} {xs : List Value} (h : w.ownsRow B te size v n xs) : n ≤ maxLen := by
  rcases h.2 with ⟨_, h0⟩ | ⟨g, cap, cur, _, _, _, h1, h2, _⟩
  · rw [h0]; exact Nat.zero_le _
  · exact Nat.le_trans h1 h2
theorem OwnOp.l {w : World} {B : Nat} {v : Value} {o : OOp} (h : OwnOp w B v o) : OpL w v o := by
  refine ⟨h.is, ?_⟩
  obtain ⟨A, c, A', c', e, h1, h2⟩ := h
  exact ⟨own_max h1, own_max h2⟩
theorem EntRow.row {w : World} {B : Nat} {v : Value} {l : List Ent} (h : EntRow w B v l) : ERow w v l := by
  obtain ⟨its, h1, h2, h3⟩ := h
  obtain ⟨A, c, rfl⟩ := slice_ownE h2
  exact ⟨A, c, its, rfl, h1, Reads.of_own h2, fun it hi => (h3 it hi).l⟩
theorem ERow.nil (w : World) : ERow w (.slice none 0 0) [] := ⟨none, 0, [], rfl, rfl, Reads.none_, by simp⟩
noncomputable def eSame (a b : List Ent) : Bool := @decide (a = b) (Classical.propDecidable _)
theorem eSame_true {a b : List Ent} (h : a = b) : eSame a b = true := by unfold eSame; exact @decide_eq_true _ (Classical.propDecidable _) h
theorem eSame_false {a b : List Ent} (h : a ≠ b) : eSame a b = false := by unfold eSame; exact @decide_eq_false _ (Classical.propDecidable _) h
theorem its_at {its : List EItem} {l : List Ent} (h : its.map (·.1) = l) {k : Nat} {it : EItem} (hx : its[k]? = some it) : l[k]? = some it.1 := by
  rw [← h, List.getElem?_map, hx]; rfl
theorem take_same {a b : List Ent} {k : Nat} {x : Ent} (h : a.take k = b.take k) (ha : a[k]? = some x) (hb : b[k]? = some x) : a.take (k + 1) = b.take (k + 1) := by
  rw [List.take_add_one, List.take_add_one, h, ha, hb]
theorem take_diff {a b : List Ent} {k : Nat} {x y : Ent} (ha : a[k]? = some x) (hb : b[k]? = some y) (h : x ≠ y) : a ≠ b := fun e => by
  rw [e, hb] at ha
  injection ha with ha
  exact h ha.symm
set_option maxHeartbeats 4000000 in
set_option maxRecDepth 100000 in
theorem refSameE_any {w : World} {v1 v2 : Value} {l1 l2 : List Ent} (h1 : ERow w v1 l1) (h2 : ERow w v2 l2) (hn : l1.length ≤ 1000000) :
    Calls Tryz.prog 21 #[v1, v2] w fun e w' => e = .returned (.bool (eSame l1 l2)) ∧ Below w.heap.size w w' := by
  obtain ⟨A, cap, its, rfl, e1, r1, o1⟩ := h1
  obtain ⟨A2, cap2, its2, rfl, e2, r2, o2⟩ := h2
  have g1 : its.length = l1.length := by rw [← e1]; simp
  have g2 : its2.length = l2.length := by rw [← e2]; simp
  by_cases hlen : l1.length = l2.length
  · obtain ⟨n, hl1⟩ : ∃ n, l1.length = n := ⟨_, rfl⟩
    have hl2 : l2.length = n := by omega
    rw [hl1] at r1 g1 hn ⊢
    rw [hl2] at r2 g2 ⊢
    replace r1 := Lib.hid r1
    replace r2 := Lib.hid r2
    replace o1 := Lib.hid o1
    replace o2 := Lib.hid o2
    replace e1 := Lib.hid e1
    replace e2 := Lib.hid e2
    replace g1 := Lib.hid g1
    replace g2 := Lib.hid g2
    replace hl1 := Lib.hid hl1
    replace hl2 := Lib.hid hl2
    replace hlen := Lib.hid hlen
    go_enter Tryz.func21, Tryz.ntmps21
    go_wp2_with fail
    go_loopw [5] (fun i wr => ∃ k : Nat, i = .int .i64 k ∧ k ≤ n ∧ Hid (l1.take k = l2.take k) ∧ Below w.heap.size w wr) (fun i _ => n + 1 - (intOf i).toNat)
    case atStart => exact ⟨0, rfl, Nat.zero_le _, by simp [Hid], Below.refl _ _⟩
    case round =>
      obtain ⟨k, rfl, hk, hpre, hb⟩ := hrel
      by_cases hlt : k < n
      · obtain ⟨ad, it, rfl, hab, hx, _⟩ := ent_at (r1.out.below hb) g1.out hlt
        obtain ⟨ad2, it2, rfl, hab2, hx2, _⟩ := ent_at (r2.out.below hb) g2.out hlt
        have hA : ∀ W, Below w.heap.size w W → (W.cell? (ad.add (k * 4)) = some (.int .i64 it.1.id.1) ∧ W.cell? ⟨(ad.add (k * 4)).block, (ad.add (k * 4)).off + 1, none⟩ = some (.int .i64 it.1.id.2) ∧ W.cell? ⟨(ad.add (k * 4)).block, (ad.add (k * 4)).off + 2, none⟩ = some it.2.1 ∧ W.cell? ⟨(ad.add (k * 4)).block, (ad.add (k * 4)).off + 3, none⟩ = some it.2.2) := fun W hW => by
          obtain ⟨ad', it', e, _, hx', hc⟩ := ent_at (r1.out.below hW) g1.out hlt
          injection e with e
          subst e
          rw [hx] at hx'
          injection hx' with hx'
          subst hx'
          exact hc
        have hB : ∀ W, Below w.heap.size w W → (W.cell? (ad2.add (k * 4)) = some (.int .i64 it2.1.id.1) ∧ W.cell? ⟨(ad2.add (k * 4)).block, (ad2.add (k * 4)).off + 1, none⟩ = some (.int .i64 it2.1.id.2) ∧ W.cell? ⟨(ad2.add (k * 4)).block, (ad2.add (k * 4)).off + 2, none⟩ = some it2.2.1 ∧ W.cell? ⟨(ad2.add (k * 4)).block, (ad2.add (k * 4)).off + 3, none⟩ = some it2.2.2) := fun W hW => by
          obtain ⟨ad', it', e, _, hx', hc⟩ := ent_at (r2.out.below hW) g2.out hlt
          injection e with e
          subst e
          rw [hx2] at hx'
          injection hx' with hx'
          subst hx'
          exact hc
        have p1 := o1.out it (List.mem_of_getElem? hx)
        have p2 := o2.out it2 (List.mem_of_getElem? hx2)
        have y1 := its_at e1.out hx
        have y2 := its_at e2.out hx2
        obtain ⟨Ag, ng, cg, At, nt, ct, hf⟩ := p1.1.form
        obtain ⟨Bg, mg, dg, Bt, mt, dt, hf2⟩ := p2.1.form
        obtain ⟨⟨⟨i1, i2⟩, op⟩, gv, tv⟩ := it
        obtain ⟨⟨⟨j1, j2⟩, op2⟩, gv2, tv2⟩ := it2
        simp only at hA hB p1 p2 y1 y2 hf hf2
        obtain ⟨rfl, rfl⟩ := op_parts hf
        obtain ⟨rfl, rfl⟩ := op_parts hf2
        clear hf hf2
        have hS := fun W (h : Below w.heap.size w W) => sameO_any _ _ op op2 W (p1.1.below h) (p2.1.below h) p1.2.1 p1.2.2 p2.2.1 p2.2.2
        replace hx := Lib.hid hx
        replace hx2 := Lib.hid hx2
        replace y1 := Lib.hid y1
        replace y2 := Lib.hid y2
        replace hA := Lib.hid hA
        replace hB := Lib.hid hB
        replace hS := Lib.hid hS
        clear p1 p2
        by_cases hid : (i1, i2) = (j1, j2)
        · injection hid with hi1 hi2
          subst hi1 hi2
          by_cases hop : op = op2
          · subst hop
            have hpre2 := Lib.hid (take_same hpre.out y1.out y2.out)
            have hSo := oSame_self op
            rw [hSo] at hS
            go_upto_region 6 with fail
            refine wp_region_lex [(true, 0), (true, 1), (true, 2), (true, 3), (true, 4), (true, 5), (true, 6), (true, 7), (true, 8), (true, 9), (true, 10), (true, 11), (true, 12), (true, 13), (true, 14), (true, 15), (true, 16), (true, 17), (true, 18), (true, 19), (true, 20), (true, 21), (false, 22), (true, 23), (true, 24)] (fun W : World => (W.cell? (ad.add (k * 4)) = some (.int .i64 i1) ∧ W.cell? ⟨(ad.add (k * 4)).block, (ad.add (k * 4)).off + 1, none⟩ = some (.int .i64 i2) ∧ W.cell? ⟨(ad.add (k * 4)).block, (ad.add (k * 4)).off + 2, none⟩ = some (.slice Ag ng cg) ∧ W.cell? ⟨(ad.add (k * 4)).block, (ad.add (k * 4)).off + 3, none⟩ = some (.slice At nt ct)) ∧ (W.cell? (ad2.add (k * 4)) = some (.int .i64 i1) ∧ W.cell? ⟨(ad2.add (k * 4)).block, (ad2.add (k * 4)).off + 1, none⟩ = some (.int .i64 i2) ∧ W.cell? ⟨(ad2.add (k * 4)).block, (ad2.add (k * 4)).off + 2, none⟩ = some (.slice Bg mg dg) ∧ W.cell? ⟨(ad2.add (k * 4)).block, (ad2.add (k * 4)).off + 3, none⟩ = some (.slice Bt mt dt))) (by kernel_rfl) (by kernel_rfl) (fun R hR => ?_)
            have hHeld : (fun W : World => (W.cell? (ad.add (k * 4)) = some (.int .i64 i1) ∧ W.cell? ⟨(ad.add (k * 4)).block, (ad.add (k * 4)).off + 1, none⟩ = some (.int .i64 i2) ∧ W.cell? ⟨(ad.add (k * 4)).block, (ad.add (k * 4)).off + 2, none⟩ = some (.slice Ag ng cg) ∧ W.cell? ⟨(ad.add (k * 4)).block, (ad.add (k * 4)).off + 3, none⟩ = some (.slice At nt ct)) ∧ (W.cell? (ad2.add (k * 4)) = some (.int .i64 i1) ∧ W.cell? ⟨(ad2.add (k * 4)).block, (ad2.add (k * 4)).off + 1, none⟩ = some (.int .i64 i2) ∧ W.cell? ⟨(ad2.add (k * 4)).block, (ad2.add (k * 4)).off + 2, none⟩ = some (.slice Bg mg dg) ∧ W.cell? ⟨(ad2.add (k * 4)).block, (ad2.add (k * 4)).off + 3, none⟩ = some (.slice Bt mt dt))) wr.drew := ⟨hA.out _ hb.drew, hB.out _ hb.drew⟩
            repeat (first | (refine lex_take (v := ?_) rfl (by rfl) (by assumption) ?_ ?_; rotate_left 1; (focus (intro w hSw; (try dsimp only at hSw); go_simp; (try with_reducible rfl))); (try simp only [Act.put, List.setIfInBounds_toArray, List.set_cons_zero, List.set_cons_succ])) | (refine lex_pass rfl (by rfl) (by assumption) ?_; (try simp only [Act.put, List.setIfInBounds_toArray, List.set_cons_zero, List.set_cons_succ])))
            (refine lex_call rfl (by rfl) (fun K hq => ?_); go_simp)
            go_at_call 51
            refine (hS.out _ hb.drew).mono ?_; rintro e w4 ⟨rfl, hb4⟩
            have qb := Below.next_ hb.drew hb4
            clear hHeld hb4
            have hHeld : (fun W : World => (W.cell? (ad.add (k * 4)) = some (.int .i64 i1) ∧ W.cell? ⟨(ad.add (k * 4)).block, (ad.add (k * 4)).off + 1, none⟩ = some (.int .i64 i2) ∧ W.cell? ⟨(ad.add (k * 4)).block, (ad.add (k * 4)).off + 2, none⟩ = some (.slice Ag ng cg) ∧ W.cell? ⟨(ad.add (k * 4)).block, (ad.add (k * 4)).off + 3, none⟩ = some (.slice At nt ct)) ∧ (W.cell? (ad2.add (k * 4)) = some (.int .i64 i1) ∧ W.cell? ⟨(ad2.add (k * 4)).block, (ad2.add (k * 4)).off + 1, none⟩ = some (.int .i64 i2) ∧ W.cell? ⟨(ad2.add (k * 4)).block, (ad2.add (k * 4)).off + 2, none⟩ = some (.slice Bg mg dg) ∧ W.cell? ⟨(ad2.add (k * 4)).block, (ad2.add (k * 4)).off + 3, none⟩ = some (.slice Bt mt dt))) w4 := ⟨hA.out _ qb, hB.out _ qb⟩
            go_wp2_with fail
            (refine hq.out _ _ (fun W : World => (W.cell? (ad.add (k * 4)) = some (.int .i64 i1) ∧ W.cell? ⟨(ad.add (k * 4)).block, (ad.add (k * 4)).off + 1, none⟩ = some (.int .i64 i2) ∧ W.cell? ⟨(ad.add (k * 4)).block, (ad.add (k * 4)).off + 2, none⟩ = some (.slice Ag ng cg) ∧ W.cell? ⟨(ad.add (k * 4)).block, (ad.add (k * 4)).off + 3, none⟩ = some (.slice At nt ct)) ∧ (W.cell? (ad2.add (k * 4)) = some (.int .i64 i1) ∧ W.cell? ⟨(ad2.add (k * 4)).block, (ad2.add (k * 4)).off + 1, none⟩ = some (.int .i64 i2) ∧ W.cell? ⟨(ad2.add (k * 4)).block, (ad2.add (k * 4)).off + 2, none⟩ = some (.slice Bg mg dg) ∧ W.cell? ⟨(ad2.add (k * 4)).block, (ad2.add (k * 4)).off + 3, none⟩ = some (.slice Bt mt dt))) (fun _ h => h) hHeld ?_; clear hq K; (try simp only [Act.put, List.setIfInBounds_toArray, List.set_cons_zero, List.set_cons_succ]))
            repeat (first | (refine lex_take (v := ?_) rfl (by rfl) (by assumption) ?_ ?_; rotate_left 1; (focus (intro w hSw; (try dsimp only at hSw); go_simp; (try with_reducible rfl))); (try simp only [Act.put, List.setIfInBounds_toArray, List.set_cons_zero, List.set_cons_succ])) | (refine lex_pass rfl (by rfl) (by assumption) ?_; (try simp only [Act.put, List.setIfInBounds_toArray, List.set_cons_zero, List.set_cons_succ])))
            refine lex_end ?_
            refine hR.out _ _ ?_
            clear hR R hHeld
            go_wp2_with fail
            go_roundw
            case rel => exact ⟨k + 1, by go_num, by omega, hpre2, qb⟩
            case measure => simp [intOf] <;> omega
          · have hfin := Lib.hid (eSame_false (take_diff y1.out y2.out (fun e => hop (by injection e))))
            have hSo : oSame op op2 = false := by simp [oSame, hop]
            rw [hSo] at hS
            replace hop := Lib.hid hop
            go_upto_region 6 with fail
            refine wp_region_lex [(true, 0), (true, 1), (true, 2), (true, 3), (true, 4), (true, 5), (true, 6), (true, 7), (true, 8), (true, 9), (true, 10), (true, 11), (true, 12), (true, 13), (true, 14), (true, 15), (true, 16), (true, 17), (true, 18), (true, 19), (true, 20), (true, 21), (false, 22), (true, 23), (true, 24)] (fun W : World => (W.cell? (ad.add (k * 4)) = some (.int .i64 i1) ∧ W.cell? ⟨(ad.add (k * 4)).block, (ad.add (k * 4)).off + 1, none⟩ = some (.int .i64 i2) ∧ W.cell? ⟨(ad.add (k * 4)).block, (ad.add (k * 4)).off + 2, none⟩ = some (.slice Ag ng cg) ∧ W.cell? ⟨(ad.add (k * 4)).block, (ad.add (k * 4)).off + 3, none⟩ = some (.slice At nt ct)) ∧ (W.cell? (ad2.add (k * 4)) = some (.int .i64 i1) ∧ W.cell? ⟨(ad2.add (k * 4)).block, (ad2.add (k * 4)).off + 1, none⟩ = some (.int .i64 i2) ∧ W.cell? ⟨(ad2.add (k * 4)).block, (ad2.add (k * 4)).off + 2, none⟩ = some (.slice Bg mg dg) ∧ W.cell? ⟨(ad2.add (k * 4)).block, (ad2.add (k * 4)).off + 3, none⟩ = some (.slice Bt mt dt))) (by kernel_rfl) (by kernel_rfl) (fun R hR => ?_)
            have hHeld : (fun W : World => (W.cell? (ad.add (k * 4)) = some (.int .i64 i1) ∧ W.cell? ⟨(ad.add (k * 4)).block, (ad.add (k * 4)).off + 1, none⟩ = some (.int .i64 i2) ∧ W.cell? ⟨(ad.add (k * 4)).block, (ad.add (k * 4)).off + 2, none⟩ = some (.slice Ag ng cg) ∧ W.cell? ⟨(ad.add (k * 4)).block, (ad.add (k * 4)).off + 3, none⟩ = some (.slice At nt ct)) ∧ (W.cell? (ad2.add (k * 4)) = some (.int .i64 i1) ∧ W.cell? ⟨(ad2.add (k * 4)).block, (ad2.add (k * 4)).off + 1, none⟩ = some (.int .i64 i2) ∧ W.cell? ⟨(ad2.add (k * 4)).block, (ad2.add (k * 4)).off + 2, none⟩ = some (.slice Bg mg dg) ∧ W.cell? ⟨(ad2.add (k * 4)).block, (ad2.add (k * 4)).off + 3, none⟩ = some (.slice Bt mt dt))) wr.drew := ⟨hA.out _ hb.drew, hB.out _ hb.drew⟩
            repeat (first | (refine lex_take (v := ?_) rfl (by rfl) (by assumption) ?_ ?_; rotate_left 1; (focus (intro w hSw; (try dsimp only at hSw); go_simp; (try with_reducible rfl))); (try simp only [Act.put, List.setIfInBounds_toArray, List.set_cons_zero, List.set_cons_succ])) | (refine lex_pass rfl (by rfl) (by assumption) ?_; (try simp only [Act.put, List.setIfInBounds_toArray, List.set_cons_zero, List.set_cons_succ])))
            (refine lex_call rfl (by rfl) (fun K hq => ?_); go_simp)
            go_at_call 51
            refine (hS.out _ hb.drew).mono ?_; rintro e w4 ⟨rfl, hb4⟩
            have qb := Below.next_ hb.drew hb4
            clear hHeld hb4
            have hHeld : (fun W : World => (W.cell? (ad.add (k * 4)) = some (.int .i64 i1) ∧ W.cell? ⟨(ad.add (k * 4)).block, (ad.add (k * 4)).off + 1, none⟩ = some (.int .i64 i2) ∧ W.cell? ⟨(ad.add (k * 4)).block, (ad.add (k * 4)).off + 2, none⟩ = some (.slice Ag ng cg) ∧ W.cell? ⟨(ad.add (k * 4)).block, (ad.add (k * 4)).off + 3, none⟩ = some (.slice At nt ct)) ∧ (W.cell? (ad2.add (k * 4)) = some (.int .i64 i1) ∧ W.cell? ⟨(ad2.add (k * 4)).block, (ad2.add (k * 4)).off + 1, none⟩ = some (.int .i64 i2) ∧ W.cell? ⟨(ad2.add (k * 4)).block, (ad2.add (k * 4)).off + 2, none⟩ = some (.slice Bg mg dg) ∧ W.cell? ⟨(ad2.add (k * 4)).block, (ad2.add (k * 4)).off + 3, none⟩ = some (.slice Bt mt dt))) w4 := ⟨hA.out _ qb, hB.out _ qb⟩
            go_wp2_with fail
            (refine hq.out _ _ (fun W : World => (W.cell? (ad.add (k * 4)) = some (.int .i64 i1) ∧ W.cell? ⟨(ad.add (k * 4)).block, (ad.add (k * 4)).off + 1, none⟩ = some (.int .i64 i2) ∧ W.cell? ⟨(ad.add (k * 4)).block, (ad.add (k * 4)).off + 2, none⟩ = some (.slice Ag ng cg) ∧ W.cell? ⟨(ad.add (k * 4)).block, (ad.add (k * 4)).off + 3, none⟩ = some (.slice At nt ct)) ∧ (W.cell? (ad2.add (k * 4)) = some (.int .i64 i1) ∧ W.cell? ⟨(ad2.add (k * 4)).block, (ad2.add (k * 4)).off + 1, none⟩ = some (.int .i64 i2) ∧ W.cell? ⟨(ad2.add (k * 4)).block, (ad2.add (k * 4)).off + 2, none⟩ = some (.slice Bg mg dg) ∧ W.cell? ⟨(ad2.add (k * 4)).block, (ad2.add (k * 4)).off + 3, none⟩ = some (.slice Bt mt dt))) (fun _ h => h) hHeld ?_; clear hq K; (try simp only [Act.put, List.setIfInBounds_toArray, List.set_cons_zero, List.set_cons_succ]))
            repeat (first | (refine lex_take (v := ?_) rfl (by rfl) (by assumption) ?_ ?_; rotate_left 1; (focus (intro w hSw; (try dsimp only at hSw); go_simp; (try with_reducible rfl))); (try simp only [Act.put, List.setIfInBounds_toArray, List.set_cons_zero, List.set_cons_succ])) | (refine lex_pass rfl (by rfl) (by assumption) ?_; (try simp only [Act.put, List.setIfInBounds_toArray, List.set_cons_zero, List.set_cons_succ])))
            refine lex_end ?_
            refine hR.out _ _ ?_
            clear hR R hHeld
            go_wp2_with fail
            go_ret
            exact ⟨by rw [hfin.out]; rfl, qb⟩
        · have hfin := Lib.hid (eSame_false (take_diff y1.out y2.out (fun e => hid (by injection e))))
          rcases id_eq_false hid with h | ⟨h0, h⟩
          · replace hid := Lib.hid hid
            go_upto_region 6 with fail
            refine wp_region_lex [(true, 0), (true, 1), (true, 2), (true, 3), (true, 4), (true, 5), (true, 6), (true, 7), (true, 8), (true, 9), (true, 10), (true, 11), (true, 12), (true, 13), (true, 14), (true, 15), (true, 16), (true, 17), (true, 18), (true, 19), (true, 20), (true, 21), (false, 22), (true, 23), (true, 24)] (fun W : World => (W.cell? (ad.add (k * 4)) = some (.int .i64 i1) ∧ W.cell? ⟨(ad.add (k * 4)).block, (ad.add (k * 4)).off + 1, none⟩ = some (.int .i64 i2) ∧ W.cell? ⟨(ad.add (k * 4)).block, (ad.add (k * 4)).off + 2, none⟩ = some (.slice Ag ng cg) ∧ W.cell? ⟨(ad.add (k * 4)).block, (ad.add (k * 4)).off + 3, none⟩ = some (.slice At nt ct)) ∧ (W.cell? (ad2.add (k * 4)) = some (.int .i64 j1) ∧ W.cell? ⟨(ad2.add (k * 4)).block, (ad2.add (k * 4)).off + 1, none⟩ = some (.int .i64 j2) ∧ W.cell? ⟨(ad2.add (k * 4)).block, (ad2.add (k * 4)).off + 2, none⟩ = some (.slice Bg mg dg) ∧ W.cell? ⟨(ad2.add (k * 4)).block, (ad2.add (k * 4)).off + 3, none⟩ = some (.slice Bt mt dt))) (by kernel_rfl) (by kernel_rfl) (fun R hR => ?_)
            have hHeld : (fun W : World => (W.cell? (ad.add (k * 4)) = some (.int .i64 i1) ∧ W.cell? ⟨(ad.add (k * 4)).block, (ad.add (k * 4)).off + 1, none⟩ = some (.int .i64 i2) ∧ W.cell? ⟨(ad.add (k * 4)).block, (ad.add (k * 4)).off + 2, none⟩ = some (.slice Ag ng cg) ∧ W.cell? ⟨(ad.add (k * 4)).block, (ad.add (k * 4)).off + 3, none⟩ = some (.slice At nt ct)) ∧ (W.cell? (ad2.add (k * 4)) = some (.int .i64 j1) ∧ W.cell? ⟨(ad2.add (k * 4)).block, (ad2.add (k * 4)).off + 1, none⟩ = some (.int .i64 j2) ∧ W.cell? ⟨(ad2.add (k * 4)).block, (ad2.add (k * 4)).off + 2, none⟩ = some (.slice Bg mg dg) ∧ W.cell? ⟨(ad2.add (k * 4)).block, (ad2.add (k * 4)).off + 3, none⟩ = some (.slice Bt mt dt))) wr.drew := ⟨hA.out _ hb.drew, hB.out _ hb.drew⟩
            repeat (first | (refine lex_take (v := ?_) rfl (by rfl) (by assumption) ?_ ?_; rotate_left 1; (focus (intro w hSw; (try dsimp only at hSw); go_simp; (try with_reducible rfl))); (try simp only [Act.put, List.setIfInBounds_toArray, List.set_cons_zero, List.set_cons_succ])) | (refine lex_pass rfl (by rfl) (by assumption) ?_; (try simp only [Act.put, List.setIfInBounds_toArray, List.set_cons_zero, List.set_cons_succ])))
            refine lex_end ?_
            refine hR.out _ _ ?_
            clear hR R hHeld
            go_wp2_with fail
            go_ret
            exact ⟨by rw [hfin.out]; rfl, hb.drew⟩
          · replace hid := Lib.hid hid
            subst h0
            go_upto_region 6 with fail
            refine wp_region_lex [(true, 0), (true, 1), (true, 2), (true, 3), (true, 4), (true, 5), (true, 6), (true, 7), (true, 8), (true, 9), (true, 10), (true, 11), (true, 12), (true, 13), (true, 14), (true, 15), (true, 16), (true, 17), (true, 18), (true, 19), (true, 20), (true, 21), (false, 22), (true, 23), (true, 24)] (fun W : World => (W.cell? (ad.add (k * 4)) = some (.int .i64 i1) ∧ W.cell? ⟨(ad.add (k * 4)).block, (ad.add (k * 4)).off + 1, none⟩ = some (.int .i64 i2) ∧ W.cell? ⟨(ad.add (k * 4)).block, (ad.add (k * 4)).off + 2, none⟩ = some (.slice Ag ng cg) ∧ W.cell? ⟨(ad.add (k * 4)).block, (ad.add (k * 4)).off + 3, none⟩ = some (.slice At nt ct)) ∧ (W.cell? (ad2.add (k * 4)) = some (.int .i64 i1) ∧ W.cell? ⟨(ad2.add (k * 4)).block, (ad2.add (k * 4)).off + 1, none⟩ = some (.int .i64 j2) ∧ W.cell? ⟨(ad2.add (k * 4)).block, (ad2.add (k * 4)).off + 2, none⟩ = some (.slice Bg mg dg) ∧ W.cell? ⟨(ad2.add (k * 4)).block, (ad2.add (k * 4)).off + 3, none⟩ = some (.slice Bt mt dt))) (by kernel_rfl) (by kernel_rfl) (fun R hR => ?_)
            have hHeld : (fun W : World => (W.cell? (ad.add (k * 4)) = some (.int .i64 i1) ∧ W.cell? ⟨(ad.add (k * 4)).block, (ad.add (k * 4)).off + 1, none⟩ = some (.int .i64 i2) ∧ W.cell? ⟨(ad.add (k * 4)).block, (ad.add (k * 4)).off + 2, none⟩ = some (.slice Ag ng cg) ∧ W.cell? ⟨(ad.add (k * 4)).block, (ad.add (k * 4)).off + 3, none⟩ = some (.slice At nt ct)) ∧ (W.cell? (ad2.add (k * 4)) = some (.int .i64 i1) ∧ W.cell? ⟨(ad2.add (k * 4)).block, (ad2.add (k * 4)).off + 1, none⟩ = some (.int .i64 j2) ∧ W.cell? ⟨(ad2.add (k * 4)).block, (ad2.add (k * 4)).off + 2, none⟩ = some (.slice Bg mg dg) ∧ W.cell? ⟨(ad2.add (k * 4)).block, (ad2.add (k * 4)).off + 3, none⟩ = some (.slice Bt mt dt))) wr.drew := ⟨hA.out _ hb.drew, hB.out _ hb.drew⟩
            repeat (first | (refine lex_take (v := ?_) rfl (by rfl) (by assumption) ?_ ?_; rotate_left 1; (focus (intro w hSw; (try dsimp only at hSw); go_simp; (try with_reducible rfl))); (try simp only [Act.put, List.setIfInBounds_toArray, List.set_cons_zero, List.set_cons_succ])) | (refine lex_pass rfl (by rfl) (by assumption) ?_; (try simp only [Act.put, List.setIfInBounds_toArray, List.set_cons_zero, List.set_cons_succ])))
            refine lex_end ?_
            refine hR.out _ _ ?_
            clear hR R hHeld
            go_wp2_with fail
            go_ret
            exact ⟨by rw [hfin.out]; rfl, hb.drew⟩
      · obtain rfl : k = n := by omega
        have hfin := Lib.hid (eSame_true (show l1 = l2 by
          have h := hpre.out
          rwa [List.take_of_length_le (by rw [hl1.out]; exact Nat.le_refl _), List.take_of_length_le (by rw [hl2.out]; exact Nat.le_refl _)] at h))
        go_wp2_with fail
        go_ret
        exact ⟨by rw [hfin.out]; rfl, hb⟩
  · have hfin := Lib.hid (eSame_false (a := l1) (b := l2) (fun e => hlen (by rw [e])))
    have hne : ((l1.length : Int) == (l2.length : Int)) = false := beq_eq_false_iff_ne.2 (by omega)
    clear r1 r2 o1 o2
    go_enter Tryz.func21, Tryz.ntmps21
    go_wp2_with fail
    go_ret
    exact ⟨by rw [hfin.out]; rfl, Below.refl _ _⟩
end Go.Proofs.YtpkkjoiglemlgaaGreatDoor

/-
  The law's Wrong, and its awake (layer 13). Where the sentinels and errors.errorType lie.
-/
namespace Go.Proofs.YtpkkjoiglemlgaaGreatDoor
set_option linter.unusedVariables false
open Go.ChangeShapes Go.WideShapes Go.ChangeAt Go.RowKit Go.Extern.Stop Go.Stop Go.Extern

/-- An error, and what the document says is wrong, are one. -/
def WrIs (w : World) (sv : Nat → Addr) (v : Value) (c : Int) (pv : Value) (pl : List Int) : Prop := (c = 0 ∧ v = .nilIface) ∨ (c ≠ 0 ∧ ErrIs w sv v pl (sIdx c) ∧ sCode (sIdx c) = c ∧ IntRow w pv pl ∧ pl.length ≤ 1000000)
set_option maxRecDepth 100000 in
set_option maxHeartbeats 4000000 in
theorem wrong13_any {w : World} {sv : Nat → Addr} (S : Sent w sv) (T : ETy w) (v : Value) (c : Int) (A : Option Addr) (n cp : Nat) (pl : List Int) (hv : WrIs w sv v c (.slice A n cp) pl) :
    Calls Tryz.prog 22 #[v, .agg #[.int .i64 c, .slice A n cp]] w fun e w' => e = .returned (.bool true) ∧ Below w.heap.size w w' := by
  have hW1 : Below w.heap.size w (w.alloc (.cells #[.int .i64 c, .slice A n cp] 42)) := (Below.refl _ _).alloc (Nat.le_refl _) _
  rcases hv with ⟨rfl, rfl⟩ | ⟨h0, hv, hc, hp, hpl⟩
  · clear S T
    replace hW1 := Lib.hid hW1
    go_enter Tryz.func22, Tryz.ntmps22
    go_wp2_with fail
    go_ret
    exact ⟨rfl, hW1.out⟩
  · have h0b : (c == 0) = false := beq_eq_false_iff_ne.2 h0
    have hcd := fun W (hW : Below w.heap.size w W) => code_any (w := W) (sv := sv) (S.below hW) v pl (sIdx c) (ErrIs.under hW hv)
    rw [hc] at hcd
    have hP := fun W (hW : Below w.heap.size w W) => places_any (w := W) (T.below hW) v pl (sIdx c) (ErrIs.under hW hv) hpl
    obtain ⟨ty, u, rfl⟩ := hv.iface
    obtain ⟨A', c', e, hr⟩ := hp
    injection e with e1 e2 e3
    subst e1 e2 e3
    have B1 := Blk.new w 42 #[.int .i64 c, .slice A pl.length cp]
    replace hP := Lib.hid hP
    replace hcd := Lib.hid hcd
    replace hv := Lib.hid hv
    replace hc := Lib.hid hc
    replace h0 := Lib.hid h0
    replace hr := Lib.hid hr
    replace hW1 := Lib.hid hW1
    replace B1 := Lib.hid B1
    have x0 := B1.out.cell 0
    have x1 := B1.out.cell 1
    clear S T
    go_enter Tryz.func22, Tryz.ntmps22
    go_upto_region 3 with fail
    refine wp_region_lex [(true, 0), (true, 1), (true, 2), (true, 3), (true, 5), (true, 6), (false, 4), (true, 7), (true, 8), (true, 9), (true, 10), (true, 12), (true, 13), (false, 11), (false, 14), (true, 15), (true, 16)] (fun W : World => W.cell? ⟨w.heap.size, 0, none⟩ = some (.int .i64 c) ∧ W.cell? ⟨w.heap.size, 1, none⟩ = some (.slice A pl.length cp)) (by kernel_rfl) (by kernel_rfl) (fun R hR => ?_)
    have hHeld : (fun W : World => W.cell? ⟨w.heap.size, 0, none⟩ = some (.int .i64 c) ∧ W.cell? ⟨w.heap.size, 1, none⟩ = some (.slice A pl.length cp)) (w.alloc (.cells #[.int .i64 c, .slice A pl.length cp] 42)).drew := ⟨x0, x1⟩
    have q0 := Lib.hid hW1.out.drew
    have D0 := Lib.hid B1.out.drew
    clear x0 x1
    repeat (first | (refine lex_take (v := ?_) rfl (by rfl) (by assumption) ?_ ?_; rotate_left 1; (focus (intro w hSw; (try dsimp only at hSw); go_simp; (try with_reducible rfl))); (try simp only [Act.put, List.setIfInBounds_toArray, List.set_cons_zero, List.set_cons_succ])) | (refine lex_pass rfl (by rfl) (by assumption) ?_; (try simp only [Act.put, List.setIfInBounds_toArray, List.set_cons_zero, List.set_cons_succ])))
    (refine lex_call rfl (by rfl) (fun K hq => ?_); go_simp)
    go_at_call 26
    refine (hcd.out _ q0.out).mono ?_; rintro e w4 ⟨rfl, hw4⟩
    subst hw4
    go_wp2_with fail
    (refine hq.out _ _ (fun W : World => W.cell? ⟨w.heap.size, 0, none⟩ = some (.int .i64 c) ∧ W.cell? ⟨w.heap.size, 1, none⟩ = some (.slice A pl.length cp)) (fun _ h => h) hHeld ?_; clear hq K; (try simp only [Act.put, List.setIfInBounds_toArray, List.set_cons_zero, List.set_cons_succ]))
    repeat (first | (refine lex_take (v := ?_) rfl (by rfl) (by assumption) ?_ ?_; rotate_left 1; (focus (intro w hSw; (try dsimp only at hSw); go_simp; (try with_reducible rfl))); (try simp only [Act.put, List.setIfInBounds_toArray, List.set_cons_zero, List.set_cons_succ])) | (refine lex_pass rfl (by rfl) (by assumption) ?_; (try simp only [Act.put, List.setIfInBounds_toArray, List.set_cons_zero, List.set_cons_succ])))
    (refine lex_call rfl (by rfl) (fun K hq => ?_); go_simp)
    go_at_call 27
    refine (hP.out _ q0.out).mono ?_; rintro e w5 ⟨r, rfl, hown, hb5⟩
    obtain ⟨A5, c5, rfl⟩ := slice_ownE hown
    have q5 := Below.next_ q0.out hb5
    have D5 := D0.out.below hb5 D0.out.lt
    have hI := ints_any (cap := c5) (cap2 := cp) rfl hpl (Reads.of_own hown) ((hr.out.below q5).more q5.size)
    clear hHeld hb5 hown
    have hHeld : (fun W : World => W.cell? ⟨w.heap.size, 0, none⟩ = some (.int .i64 c) ∧ W.cell? ⟨w.heap.size, 1, none⟩ = some (.slice A pl.length cp)) w5 := ⟨D5.cell 0, D5.cell 1⟩
    replace hI := Lib.hid hI
    replace q5 := Lib.hid q5
    replace D5 := Lib.hid D5
    go_wp2_with fail
    (refine hq.out _ _ (fun W : World => W.cell? ⟨w.heap.size, 0, none⟩ = some (.int .i64 c) ∧ W.cell? ⟨w.heap.size, 1, none⟩ = some (.slice A pl.length cp)) (fun _ h => h) hHeld ?_; clear hq K; (try simp only [Act.put, List.setIfInBounds_toArray, List.set_cons_zero, List.set_cons_succ]))
    repeat (first | (refine lex_take (v := ?_) rfl (by rfl) (by assumption) ?_ ?_; rotate_left 1; (focus (intro w hSw; (try dsimp only at hSw); go_simp; (try with_reducible rfl))); (try simp only [Act.put, List.setIfInBounds_toArray, List.set_cons_zero, List.set_cons_succ])) | (refine lex_pass rfl (by rfl) (by assumption) ?_; (try simp only [Act.put, List.setIfInBounds_toArray, List.set_cons_zero, List.set_cons_succ])))
    (refine lex_call rfl (by rfl) (fun K hq => ?_); go_simp)
    go_at_call 52
    refine (hI.out).mono ?_; rintro e w6 ⟨rfl, hb6⟩
    have q6 := Below.next_ q5.out hb6
    have D6 := D5.out.below hb6 D5.out.lt
    clear hHeld hb6
    have hHeld : (fun W : World => W.cell? ⟨w.heap.size, 0, none⟩ = some (.int .i64 c) ∧ W.cell? ⟨w.heap.size, 1, none⟩ = some (.slice A pl.length cp)) w6 := ⟨D6.cell 0, D6.cell 1⟩
    replace q6 := Lib.hid q6
    clear D6
    go_wp2_with fail
    (refine hq.out _ _ (fun W : World => W.cell? ⟨w.heap.size, 0, none⟩ = some (.int .i64 c) ∧ W.cell? ⟨w.heap.size, 1, none⟩ = some (.slice A pl.length cp)) (fun _ h => h) hHeld ?_; clear hq K; (try simp only [Act.put, List.setIfInBounds_toArray, List.set_cons_zero, List.set_cons_succ]))
    repeat (first | (refine lex_take (v := ?_) rfl (by rfl) (by assumption) ?_ ?_; rotate_left 1; (focus (intro w hSw; (try dsimp only at hSw); go_simp; (try with_reducible rfl))); (try simp only [Act.put, List.setIfInBounds_toArray, List.set_cons_zero, List.set_cons_succ])) | (refine lex_pass rfl (by rfl) (by assumption) ?_; (try simp only [Act.put, List.setIfInBounds_toArray, List.set_cons_zero, List.set_cons_succ])))
    refine lex_end ?_
    refine hR.out _ _ ?_
    clear hR R hHeld
    go_wp2_with fail
    go_ret
    exact ⟨rfl, q6.out⟩
set_option maxHeartbeats 1000000 in
theorem btRightNil_any (w : World) : Calls Tryz.prog 28 #[.slice none 0 0] w fun e w' => e = .returned (.bool true) ∧ Below w.heap.size w w' := by
  have hI := btIds_any (w := w) (A := none) (n := 0) (cap := 0) (its := []) rfl (by decide) Reads.none_ (by simp)
  replace hI := Lib.hid hI
  go_enter Tryz.func28, Tryz.ntmps28
  go_wp2_with fail
  go_loopw [10] (fun i wr => i = .int .i64 0 ∧ wr = w) (fun _ _ => 0)
  case atStart => exact ⟨rfl, rfl⟩
  case round =>
    obtain ⟨rfl, rfl⟩ := hrel
    go_wp2_with fail
    refine (hI.out).mono ?_; rintro e w1 ⟨B, c, rfl, hown, hb1⟩
    have hOf := setOf_any (w := w1) (A := B) (n := 0) (cap := c) (l := []) rfl (by decide) (Reads.of_own hown) (by simp)
    replace hOf := Lib.hid hOf
    replace hb1 := Lib.hid hb1
    go_wp2_with fail
    refine (hOf.out).mono ?_; rintro e w2 ⟨b, rfl, ⟨F, hS, _⟩, hb2⟩
    have hAll := setAll_any hS (by decide)
    have hb3 := Below.next_ hb1.out hb2
    replace hAll := Lib.hid hAll
    replace hb3 := Lib.hid hb3
    go_wp2_with fail
    refine (hAll.out).mono ?_; rintro e w3 ⟨A, cp, rfl, hown, hb4⟩
    have hb5 := Below.next_ hb3.out hb4
    go_wp2_with fail
    go_ret
    exact ⟨rfl, hb5⟩
set_option maxHeartbeats 1000000 in
theorem btPrintNil_any (w : World) : Calls Tryz.prog 24 #[.slice none 0 0] w fun e w' => e = .returned (.tuple #[.string ⟨#[0]⟩, .nilIface]) ∧ Below w.heap.size w w' := by
  have hR := btRightNil_any w
  have hP := fun W => put_any 0 (by decide) W
  rw [show strL (sput 0) = .string ⟨#[0]⟩ by kernel_rfl] at hP
  replace hR := Lib.hid hR
  replace hP := Lib.hid hP
  go_enter Tryz.func24, Tryz.ntmps24
  go_wp2_with fail
  refine (hR.out).mono ?_; rintro e w1 ⟨rfl, hb1⟩
  go_wp2_with fail
  refine (hP.out _).mono ?_; rintro e w2 ⟨rfl, hb2⟩
  have hb3 := Below.next_ hb1 hb2
  replace hb3 := Lib.hid hb3
  clear hb1 hb2
  go_wp2_with fail
  go_loopw [4, 19] (fun o i wr => o = .string ⟨#[0]⟩ ∧ i = .int .i64 0 ∧ wr = w2) (fun _ _ _ => 0)
  case atStart => exact ⟨rfl, rfl, rfl⟩
  case round =>
    obtain ⟨rfl, rfl, rfl⟩ := hrel
    go_wp2_with fail
    exact bodyPost_ret (results_tmp2 Tryz.results24 _ _ _) rfl ⟨rfl, hb3.out⟩
theorem bParse_zero : bParse ⟨#[0]⟩ = .ok [] := by kernel_rfl
theorem bParse_none : bParse ⟨#[]⟩ = .error (2, [0]) := by kernel_rfl
set_option maxHeartbeats 2000000 in
set_option maxRecDepth 100000 in
theorem awake13_any {w : World} {sv : Nat → Addr} (S : Sent w sv) (T : ETy w) : Calls Tryz.prog 18 #[] w fun e w' => e = .returned (.bool true) ∧ Below w.heap.size w w' := by
  have hP := btPrintNil_any w
  have hA := fun W (h : Below w.heap.size w W) => btParse_any (S.below h) (T.below h) ⟨#[0]⟩ (by decide)
  have hB := fun W (h : Below w.heap.size w W) => btParse_any (S.below h) (T.below h) ⟨#[]⟩ (by decide)
  rw [bParse_zero] at hA
  rw [bParse_none] at hB
  have hWr := fun W (h : Below w.heap.size w W) v c A n cp pl hv => wrong13_any (S.below h) (T.below h) v c A n cp pl hv
  replace hP := Lib.hid hP
  replace hA := Lib.hid hA
  replace hB := Lib.hid hB
  replace hWr := Lib.hid hWr
  clear S T
  go_enter Tryz.func18, Tryz.ntmps18
  go_wp2_with fail
  refine (hP.out).mono ?_; rintro e w1 ⟨rfl, hb1⟩
  go_wp2_with fail
  refine (hA.out _ hb1).mono ?_; rintro e w2 ⟨v, err, rfl, ⟨hrow, rfl⟩, hb2⟩
  obtain ⟨A0, c0, rfl⟩ := hrow.len
  have hb3 := Below.next_ hb1 hb2
  replace hb3 := Lib.hid hb3
  clear hrow hb1 hb2
  go_wp2_with fail
  refine (hB.out _ hb3.out).mono ?_; rintro e w4 ⟨v, err, rfl, ⟨rfl, he⟩, hb4⟩
  obtain ⟨ty, u, rfl⟩ := he.iface
  have hb5 := Below.next_ hb3.out hb4
  have hbX : Below w4.heap.size w4 (w4.alloc (.cells #[.int .i64 0] 3)) := (Below.refl _ _).alloc (Nat.le_refl _) _
  have hb6 := Below.next_ hb5 hbX
  have hW := hWr.out _ hb6 _ 2 _ _ _ _ (.inr ⟨by decide, he.under hbX, by decide, intRow_new w4 [0], by decide⟩)
  replace hW := Lib.hid hW
  replace hb6 := Lib.hid hb6
  clear he hb4 hb5 hbX
  go_wp2_with fail
  refine (hW.out).mono ?_; rintro e w5 ⟨rfl, hb7⟩
  have hb8 := Below.next_ hb6.out hb7
  replace hb8 := Lib.hid hb8
  clear hb7
  go_wp2_with fail
  refine (btRightNil_any _).mono ?_; rintro e w9 ⟨rfl, hb9⟩
  have hb10 := Below.next_ hb8.out hb9
  go_wp2_with fail
  go_ret
  exact ⟨rfl, hb10⟩
end Go.Proofs.YtpkkjoiglemlgaaGreatDoor
