/-
  More of the tape's acts by name. No condition.
-/
import Derived.Test.YtpldnbdcpihjcaaTapeC
import Derived.Test.YtpldnbdcpihjcaaFeed
namespace Go.Proofs.Ytpldnbdcpihjcaa
set_option linter.unusedVariables false
open Go.ChangeShapes Go.WideShapes Go.ChangeAt Go.RowKit
open Go.ChangeMaps (setBlock)

theorem gotFld1 (x : Int) (s : ByteArray) (w : World) : (Instr.field 45 (.agg #[.int .u64 x, .string s]) 1).run Try.prog w = .ok (.string s) w := by kernel_rfl
set_option maxRecDepth 100000 in
set_option maxHeartbeats 1000000 in
theorem tape_load {w : World} {tb c : Nat} {A : Option Addr} {T : PTape} (h : TapeIn w tb A c T) (b i : Int) :
    Calls Try.prog 60 #[.pointer (some ⟨tb, 0, none⟩), .int .u64 b, .int .i64 i] w fun e w' => e = .returned (.int .u64 (T.doAct ⟨1, b, i, 0, 0, ByteArray.empty⟩).1.word) ∧ TapeIn w' tb A c (T.doAct ⟨1, b, i, 0, 0, ByteArray.empty⟩).2 ∧ Chg (fun k => k = tb) w w' := by
  have hC := tape_any h ⟨1, b, i, 0, 0, ByteArray.empty⟩
  rcases hx : (T.doAct ⟨1, b, i, 0, 0, ByteArray.empty⟩).1 with ⟨gw, gt⟩
  rw [hx, show PGot.val ⟨gw, gt⟩ = .agg #[.int .u64 gw, .string gt] from rfl, show PAct.val ⟨1, b, i, 0, 0, ByteArray.empty⟩ = .agg #[.int .i64 1, .int .u64 b, .int .i64 i, .int .u64 0, .int .u64 0, .string ⟨#[]⟩] from rfl] at hC
  replace hC := Lib.hid hC
  clear hx
  have hF := gotFld0
  go_enter Try.func60, Try.ntmps60
  go_wp2_with fail
  refine (hC.out).mono ?_; rintro e w1 ⟨rfl, h1, h2⟩
  replace h1 := Lib.hid h1
  replace h2 := Lib.hid h2
  go_wp2_with fail
  refine bodyPost_ret (v := .int .u64 gw) (by simp [results, Try.results60, go_sem]) rfl ⟨rfl, h1.out, h2.out⟩
set_option maxRecDepth 100000 in
set_option maxHeartbeats 1000000 in
theorem tape_swap {w : World} {tb c : Nat} {A : Option Addr} {T : PTape} (h : TapeIn w tb A c T) (b i o n : Int) :
    Calls Try.prog 74 #[.pointer (some ⟨tb, 0, none⟩), .int .u64 b, .int .i64 i, .int .u64 o, .int .u64 n] w fun e w' => e = .returned (.int .u64 (T.doAct ⟨3, b, i, o, n, ByteArray.empty⟩).1.word) ∧ TapeIn w' tb A c (T.doAct ⟨3, b, i, o, n, ByteArray.empty⟩).2 ∧ Chg (fun k => k = tb) w w' := by
  have hC := tape_any h ⟨3, b, i, o, n, ByteArray.empty⟩
  rcases hx : (T.doAct ⟨3, b, i, o, n, ByteArray.empty⟩).1 with ⟨gw, gt⟩
  rw [hx, show PGot.val ⟨gw, gt⟩ = .agg #[.int .u64 gw, .string gt] from rfl, show PAct.val ⟨3, b, i, o, n, ByteArray.empty⟩ = .agg #[.int .i64 3, .int .u64 b, .int .i64 i, .int .u64 o, .int .u64 n, .string ⟨#[]⟩] from rfl] at hC
  replace hC := Lib.hid hC
  clear hx
  have hF := gotFld0
  go_enter Try.func74, Try.ntmps74
  go_wp2_with fail
  refine (hC.out).mono ?_; rintro e w1 ⟨rfl, h1, h2⟩
  replace h1 := Lib.hid h1
  replace h2 := Lib.hid h2
  go_wp2_with fail
  refine bodyPost_ret (v := .int .u64 gw) (by simp [results, Try.results74, go_sem]) rfl ⟨rfl, h1.out, h2.out⟩
set_option maxRecDepth 100000 in
set_option maxHeartbeats 1000000 in
theorem tape_words {w : World} {tb c : Nat} {A : Option Addr} {T : PTape} (h : TapeIn w tb A c T) (b : Int) :
    Calls Try.prog 62 #[.pointer (some ⟨tb, 0, none⟩), .int .u64 b] w fun e w' => e = .returned (.string (T.doAct ⟨6, b, 0, 0, 0, ByteArray.empty⟩).1.text) ∧ TapeIn w' tb A c (T.doAct ⟨6, b, 0, 0, 0, ByteArray.empty⟩).2 ∧ Chg (fun k => k = tb) w w' := by
  have hC := tape_any h ⟨6, b, 0, 0, 0, ByteArray.empty⟩
  rcases hx : (T.doAct ⟨6, b, 0, 0, 0, ByteArray.empty⟩).1 with ⟨gw, gt⟩
  rw [hx, show PGot.val ⟨gw, gt⟩ = .agg #[.int .u64 gw, .string gt] from rfl, show PAct.val ⟨6, b, 0, 0, 0, ByteArray.empty⟩ = .agg #[.int .i64 6, .int .u64 b, .int .i64 0, .int .u64 0, .int .u64 0, .string ⟨#[]⟩] from rfl] at hC
  replace hC := Lib.hid hC
  clear hx
  have hF := gotFld1
  go_enter Try.func62, Try.ntmps62
  go_wp2_with fail
  refine (hC.out).mono ?_; rintro e w1 ⟨rfl, h1, h2⟩
  replace h1 := Lib.hid h1
  replace h2 := Lib.hid h2
  go_wp2_with fail
  refine bodyPost_ret (v := .string gt) (by simp [results, Try.results62, go_sem]) rfl ⟨rfl, h1.out, h2.out⟩
theorem Fed.go2 {σ : Type} {act : σ → PAct × Bool} {take : σ → PGot → σ} {s0 s : σ} {Q : List PGot} {T : PTape} (h : Fed take s0 Q T s) {x : PAct} (hx : act s = (x, true)) :
    (∃ g, Q[T.at_]? = some g ∧ T.doAct x = (g, { T with at_ := T.at_ + 1 }) ∧ Fed take s0 Q { T with at_ := T.at_ + 1 } (take s g)) ∨
    (T.doAct x = (noGot, { T with over := true, act := x }) ∧ Ended act take s0 Q { T with over := true, act := x } ∧ feed take s0 Q = s) := by
  rcases h.go hx with h1 | ⟨h1, h2⟩
  · exact .inl h1
  · refine .inr ⟨h1, h2, ?_⟩
    have e : T.at_ = Q.length := by
      have h3 := h.at_
      rcases Nat.lt_or_ge T.at_ Q.length with h4 | h4
      · have h5 : T.doAct x = (Q[T.at_], { T with at_ := T.at_ + 1 }) := by simp [PTape.doAct, h.over, h.got, h4]
        rw [h1] at h5
        injection h5 with _ h5
        have := congrArg PTape.over h5
        rw [h.over] at this
        cases this
      · omega
    rw [h.st, e, List.take_length]
theorem TapeIn.set_far {w : World} {tb c : Nat} {A : Option Addr} {T : PTape} (h : TapeIn w tb A c T) {p : Addr} (hp : tb < p.block) (u : Value) : TapeIn (w.setCell p u) tb A c T :=
  ⟨h.blk.far (by omega) u, h.got.setCell (by omega) u, h.len, h.at_⟩
/-- How much is left of a tape, read in the world. -/
def tapeM (tb len : Nat) (W : World) : Nat := match W.cell? ⟨tb, 1, none⟩, W.cell? ⟨tb, 2, none⟩ with
  | some (.int _ a), some (.bool o) => 2 * (len - a.toNat) + (if o then 0 else 1)
  | _, _ => 0
theorem tapeM_eq {w : World} {tb c : Nat} {A : Option Addr} {T : PTape} (h : TapeIn w tb A c T) (len : Nat) : tapeM tb len w = 2 * (len - T.at_) + (if T.over then 0 else 1) := by
  have c1 : w.cell? ⟨tb, 1, none⟩ = some (.int .i64 (T.at_ : Nat)) := h.blk.cell 1
  have c2 : w.cell? ⟨tb, 2, none⟩ = some (.bool T.over) := h.blk.cell 2
  unfold tapeM
  rw [c1, c2]
  simp
end Go.Proofs.Ytpldnbdcpihjcaa
