/-
  The tape's acts by name; the document's version (layer 22) on a tape. No condition.
-/
import Derived.Test.YtpldnbdcpihjcaaTape
namespace Go.Proofs.Ytpldnbdcpihjcaa
set_option linter.unusedVariables false
open Go.ChangeShapes Go.WideShapes Go.ChangeAt Go.RowKit
open Go.ChangeMaps (setBlock)

set_option maxHeartbeats 1000000 in
theorem tape_store {w : World} {tb c : Nat} {A : Option Addr} {T : PTape} (h : TapeIn w tb A c T) (b i v : Int) :
    Calls Try.prog 75 #[.pointer (some ⟨tb, 0, none⟩), .int .u64 b, .int .i64 i, .int .u64 v] w fun e w' => e = .returned (.tuple #[]) ∧ TapeIn w' tb A c (T.doAct ⟨2, b, i, 0, v, ByteArray.empty⟩).2 ∧ Chg (fun k => k = tb) w w' := by
  have hC := tape_any h ⟨2, b, i, 0, v, ByteArray.empty⟩
  rw [show PAct.val ⟨2, b, i, 0, v, ByteArray.empty⟩ = .agg #[.int .i64 2, .int .u64 b, .int .i64 i, .int .u64 0, .int .u64 v, .string ⟨#[]⟩] from rfl] at hC
  replace hC := Lib.hid hC
  go_enter Try.func75, Try.ntmps75
  go_wp2_with fail
  refine (hC.out).mono ?_; rintro e w1 ⟨rfl, h1, h2⟩
  replace h1 := Lib.hid h1
  replace h2 := Lib.hid h2
  go_wp2_with fail
  exact bodyPost_end (v := .tuple #[]) (results_none (by kernel_rfl) _ _ _) rfl ⟨rfl, h1.out, h2.out⟩
theorem gotFld0 (x : Int) (s : ByteArray) (w : World) : (Instr.field 45 (.agg #[.int .u64 x, .string s]) 0).run Try.prog w = .ok (.int .u64 x) w := by kernel_rfl
/-- A change, as a value. -/
structure PChange where
  key : ByteArray
  has : Bool
  value : ByteArray
def PChange.val (c : PChange) : Value := .agg #[.string c.key, .bool c.has, .string c.value]
/-- The document's version. -/
def PTape.version (T : PTape) (epoch next : Int) (c : PChange) : Int × PTape :=
  let m := T.doAct ⟨5, 0, 3, 0, 0, if c.has then c.value else ByteArray.empty⟩
  if m.1.word = 0 then (0, m.2)
  else
    let t1 := (m.2.doAct ⟨2, m.1.word, 0, 0, epoch, ByteArray.empty⟩).2
    let t2 := if next = 0 then t1 else (t1.doAct ⟨2, m.1.word, 1, 0, next, ByteArray.empty⟩).2
    let t3 := if c.has then (t2.doAct ⟨2, m.1.word, 2, 0, 1, ByteArray.empty⟩).2 else t2
    (m.1.word, t3)
end Go.Proofs.Ytpldnbdcpihjcaa
