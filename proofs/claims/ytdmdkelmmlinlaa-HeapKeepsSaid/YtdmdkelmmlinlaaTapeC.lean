/-
  The tape's acts by name; the document's version (layer 22) on a tape. No condition.
-/
import Derived.Test.YtdmdkelmmlinlaaTape
namespace Go.Proofs.Ytdmdkelmmlinlaa
set_option linter.unusedVariables false
open Go.ChangeShapes Go.WideShapes Go.ChangeAt Go.RowKit
open Go.ChangeMaps (setBlock)

set_option maxHeartbeats 1000000 in
theorem tape_store {w : World} {tb c : Nat} {A : Option Addr} {T : PTape} (h : TapeIn w tb A c T) (b i v : Int) :
    Calls Try.prog 59 #[.pointer (some ⟨tb, 0, none⟩), .int .u64 b, .int .i64 i, .int .u64 v] w fun e w' => e = .returned (.tuple #[]) ∧ TapeIn w' tb A c (T.doAct ⟨2, b, i, 0, v, ByteArray.empty⟩).2 ∧ Chg (fun k => k = tb) w w' := by
  have hC := tape_any h ⟨2, b, i, 0, v, ByteArray.empty⟩
  rw [show PAct.val ⟨2, b, i, 0, v, ByteArray.empty⟩ = .agg #[.int .i64 2, .int .u64 b, .int .i64 i, .int .u64 0, .int .u64 v, .string ⟨#[]⟩] from rfl] at hC
  replace hC := Lib.hid hC
  go_enter Try.func59, Try.ntmps59
  go_wp2_with fail
  refine (hC.out).mono ?_; rintro e w1 ⟨rfl, h1, h2⟩
  replace h1 := Lib.hid h1
  replace h2 := Lib.hid h2
  go_wp2_with fail
  exact bodyPost_end (v := .tuple #[]) (results_none (by kernel_rfl) _ _ _) rfl ⟨rfl, h1.out, h2.out⟩
theorem gotFld0 (x : Int) (s : ByteArray) (w : World) : (Instr.field 76 (.agg #[.int .u64 x, .string s]) 0).run Try.prog w = .ok (.int .u64 x) w := by kernel_rfl
set_option maxRecDepth 100000 in
set_option maxHeartbeats 1000000 in
theorem tape_make {w : World} {tb c : Nat} {A : Option Addr} {T : PTape} (h : TapeIn w tb A c T) (n : Int) (t : ByteArray) :
    Calls Try.prog 58 #[.pointer (some ⟨tb, 0, none⟩), .int .i64 n, .string t] w fun e w' => e = .returned (.int .u64 (T.doAct ⟨5, 0, n, 0, 0, t⟩).1.word) ∧ TapeIn w' tb A c (T.doAct ⟨5, 0, n, 0, 0, t⟩).2 ∧ Chg (fun k => k = tb) w w' := by
  have hC := tape_any h ⟨5, 0, n, 0, 0, t⟩
  rcases hx : (T.doAct ⟨5, 0, n, 0, 0, t⟩).1 with ⟨gw, gt⟩
  rw [hx, show PGot.val ⟨gw, gt⟩ = .agg #[.int .u64 gw, .string gt] from rfl, show PAct.val ⟨5, 0, n, 0, 0, t⟩ = .agg #[.int .i64 5, .int .u64 0, .int .i64 n, .int .u64 0, .int .u64 0, .string t] from rfl] at hC
  replace hC := Lib.hid hC
  clear hx
  have hF := gotFld0
  go_enter Try.func58, Try.ntmps58
  go_wp2_with fail
  refine (hC.out).mono ?_; rintro e w1 ⟨rfl, h1, h2⟩
  replace h1 := Lib.hid h1
  replace h2 := Lib.hid h2
  go_wp2_with fail
  refine bodyPost_ret (v := .int .u64 gw) (by simp [results, Try.results58, go_sem]) rfl ⟨rfl, h1.out, h2.out⟩
/-- A change, as a value. -/
structure PChange where
  key : ByteArray
  has : Bool
  value : ByteArray
def PChange.val (c : PChange) : Value := .agg #[.string c.key, .bool c.has, .string c.value]
/-- The document's version. -/
def PTape.version (T : PTape) (epoch next : Int) (c : PChange) : Int × PTape :=
  let m := T.doAct ⟨5, 0, 3, 0, 0, if c.has then c.value else ByteArray.empty⟩
  if m.1.word = 0 then (0, m.2)
  else
    let t1 := (m.2.doAct ⟨2, m.1.word, 0, 0, epoch, ByteArray.empty⟩).2
    let t2 := if next = 0 then t1 else (t1.doAct ⟨2, m.1.word, 1, 0, next, ByteArray.empty⟩).2
    let t3 := if c.has then (t2.doAct ⟨2, m.1.word, 2, 0, 1, ByteArray.empty⟩).2 else t2
    (m.1.word, t3)
set_option maxRecDepth 100000 in
set_option maxHeartbeats 4000000 in
theorem refVersion_any {w : World} {tb cc : Nat} {A : Option Addr} {T : PTape} (h : TapeIn w tb A cc T) (epoch next : Int) (c : PChange) :
    Calls Try.prog 36 #[.pointer (some ⟨tb, 0, none⟩), .int .u64 epoch, .int .u64 next, c.val] w fun e w' => e = .returned (.int .u64 (T.version epoch next c).1) ∧ TapeIn w' tb A cc (T.version epoch next c).2 ∧ Chg (fun k => k = tb) w w' := by
  obtain ⟨key, has, value⟩ := c
  have hz : Below w.heap.size w (w.alloc (.cells #[.string key, .bool has, .string value] 82)) := (Below.refl _ _).alloc (Nat.le_refl _) _
  have h0 := h.below hz
  have hK := Chg.of_below hz (fun k => k = tb)
  have B1 := Blk.new w 82 #[.string key, .bool has, .string value]
  have hlt := h.blk.lt
  rw [show PChange.val ⟨key, has, value⟩ = .agg #[.string key, .bool has, .string value] from rfl]
  generalize hV : T.version epoch next ⟨key, has, value⟩ = V
  replace hV := Lib.hid hV
  replace h := Lib.hid h
  replace hz := Lib.hid hz
  cases has with
  | false =>
    rcases hx : T.doAct ⟨5, 0, 3, 0, 0, ByteArray.empty⟩ with ⟨⟨mw, mt⟩, T1⟩
    have hC0 := tape_make h0 3 ByteArray.empty
    rw [hx] at hC0
    change Calls Try.prog _ #[_, _, .string ⟨#[]⟩] _ _ at hC0
    replace hx := Lib.hid hx
    replace hC0 := Lib.hid hC0
    replace h0 := Lib.hid h0
    replace hK := Lib.hid hK
    replace B1 := Lib.hid B1
    go_enter Try.func36, Try.ntmps36
    go_wp2_with fail
    refine (hC0.out).mono ?_; rintro e w1 ⟨rfl, h1, h2⟩
    have g1 := B1.out.keep (h2.block w.heap.size (by simp) (by omega))
    have k1 := hK.out.trans h2 fun i hi => Or.inl hi
    replace h1 := Lib.hid h1
    replace h2 := Lib.hid h2
    replace g1 := Lib.hid g1
    replace k1 := Lib.hid k1
    by_cases m0 : mw = 0
    · have d0 : (mw == 0) = true := by simp [m0]
      replace m0 := Lib.hid m0
      go_wp2_with fail
      refine bodyPost_ret (v := .int .u64 0) (by simp [results, Try.results36, go_sem]) rfl ?_
      have e : V = (0, T1) := by rw [← hV.out]; simp [PTape.version, hx.out, m0.out]
      rw [e]
      exact ⟨rfl, h1.out, k1.out⟩
    have d0 : (mw == 0) = false := by simp [m0]
    replace m0 := Lib.hid m0
    go_wp2_with fail
    refine (tape_store h1.out mw 0 epoch).mono ?_; rintro e w2 ⟨rfl, h3, h4⟩
    have hs1 : w.heap.size < w1.heap.size := g1.out.lt
    have g2 := g1.out.keep (h4.block w.heap.size hs1 (by omega))
    have k2 := k1.out.trans h4 fun i hi => Or.inl hi
    replace h3 := Lib.hid h3
    replace h4 := Lib.hid h4
    replace g2 := Lib.hid g2
    replace k2 := Lib.hid k2
    by_cases n0 : next = 0
    · have d1 : (next == 0) = true := by simp [n0]
      replace n0 := Lib.hid n0
      have c1 := g2.out.cell 1
      go_wp2_with fail
      refine bodyPost_ret (v := .int .u64 mw) (by simp [results, Try.results36, go_sem]) rfl ?_
      have e : V = (mw, (T1.doAct ⟨2, mw, 0, 0, epoch, ByteArray.empty⟩).2) := by rw [← hV.out]; simp [PTape.version, hx.out, m0.out, n0.out]
      rw [e]
      exact ⟨rfl, h3.out, k2.out⟩
    have d1 : (next == 0) = false := by simp [n0]
    replace n0 := Lib.hid n0
    go_wp2_with fail
    refine (tape_store h3.out mw 1 next).mono ?_; rintro e w3 ⟨rfl, h5, h6⟩
    have hs2 : w.heap.size < w2.heap.size := g2.out.lt
    have g3 := g2.out.keep (h6.block w.heap.size hs2 (by omega))
    have k3 := k2.out.trans h6 fun i hi => Or.inl hi
    replace h5 := Lib.hid h5
    replace h6 := Lib.hid h6
    replace g3 := Lib.hid g3
    replace k3 := Lib.hid k3
    have c1 := g3.out.cell 1
    go_wp2_with fail
    refine bodyPost_ret (v := .int .u64 mw) (by simp [results, Try.results36, go_sem]) rfl ?_
    have e : V = (mw, ((T1.doAct ⟨2, mw, 0, 0, epoch, ByteArray.empty⟩).2.doAct ⟨2, mw, 1, 0, next, ByteArray.empty⟩).2) := by rw [← hV.out]; simp [PTape.version, hx.out, m0.out, n0.out]
    rw [e]
    exact ⟨rfl, h5.out, k3.out⟩
  | true =>
    rcases hx : T.doAct ⟨5, 0, 3, 0, 0, value⟩ with ⟨⟨mw, mt⟩, T1⟩
    have hC0 := tape_make h0 3 value
    rw [hx] at hC0
    change Calls Try.prog _ #[_, _, .string value] _ _ at hC0
    replace hx := Lib.hid hx
    replace hC0 := Lib.hid hC0
    replace h0 := Lib.hid h0
    replace hK := Lib.hid hK
    replace B1 := Lib.hid B1
    go_enter Try.func36, Try.ntmps36
    go_wp2_with fail
    refine (hC0.out).mono ?_; rintro e w1 ⟨rfl, h1, h2⟩
    have g1 := B1.out.keep (h2.block w.heap.size (by simp) (by omega))
    have k1 := hK.out.trans h2 fun i hi => Or.inl hi
    replace h1 := Lib.hid h1
    replace h2 := Lib.hid h2
    replace g1 := Lib.hid g1
    replace k1 := Lib.hid k1
    by_cases m0 : mw = 0
    · have d0 : (mw == 0) = true := by simp [m0]
      replace m0 := Lib.hid m0
      go_wp2_with fail
      refine bodyPost_ret (v := .int .u64 0) (by simp [results, Try.results36, go_sem]) rfl ?_
      have e : V = (0, T1) := by rw [← hV.out]; simp [PTape.version, hx.out, m0.out]
      rw [e]
      exact ⟨rfl, h1.out, k1.out⟩
    have d0 : (mw == 0) = false := by simp [m0]
    replace m0 := Lib.hid m0
    go_wp2_with fail
    refine (tape_store h1.out mw 0 epoch).mono ?_; rintro e w2 ⟨rfl, h3, h4⟩
    have hs1 : w.heap.size < w1.heap.size := g1.out.lt
    have g2 := g1.out.keep (h4.block w.heap.size hs1 (by omega))
    have k2 := k1.out.trans h4 fun i hi => Or.inl hi
    replace h3 := Lib.hid h3
    replace h4 := Lib.hid h4
    replace g2 := Lib.hid g2
    replace k2 := Lib.hid k2
    by_cases n0 : next = 0
    · have d1 : (next == 0) = true := by simp [n0]
      replace n0 := Lib.hid n0
      have c1 := g2.out.cell 1
      go_wp2_with fail
      refine (tape_store h3.out mw 2 1).mono ?_; rintro e w9 ⟨rfl, h7, h8⟩
      have k9 := k2.out.trans h8 fun i hi => Or.inl hi
      replace h7 := Lib.hid h7
      replace k9 := Lib.hid k9
      replace h8 := Lib.hid h8
      go_wp2_with fail
      refine bodyPost_ret (v := .int .u64 mw) (by simp [results, Try.results36, go_sem]) rfl ?_
      have e : V = (mw, ((T1.doAct ⟨2, mw, 0, 0, epoch, ByteArray.empty⟩).2.doAct ⟨2, mw, 2, 0, 1, ByteArray.empty⟩).2) := by rw [← hV.out]; simp [PTape.version, hx.out, m0.out, n0.out]
      rw [e]
      exact ⟨rfl, h7.out, k9.out⟩
    have d1 : (next == 0) = false := by simp [n0]
    replace n0 := Lib.hid n0
    go_wp2_with fail
    refine (tape_store h3.out mw 1 next).mono ?_; rintro e w3 ⟨rfl, h5, h6⟩
    have hs2 : w.heap.size < w2.heap.size := g2.out.lt
    have g3 := g2.out.keep (h6.block w.heap.size hs2 (by omega))
    have k3 := k2.out.trans h6 fun i hi => Or.inl hi
    replace h5 := Lib.hid h5
    replace h6 := Lib.hid h6
    replace g3 := Lib.hid g3
    replace k3 := Lib.hid k3
    have c1 := g3.out.cell 1
    go_wp2_with fail
    refine (tape_store h5.out mw 2 1).mono ?_; rintro e w9 ⟨rfl, h7, h8⟩
    have k9 := k3.out.trans h8 fun i hi => Or.inl hi
    replace h7 := Lib.hid h7
    replace k9 := Lib.hid k9
    replace h8 := Lib.hid h8
    go_wp2_with fail
    refine bodyPost_ret (v := .int .u64 mw) (by simp [results, Try.results36, go_sem]) rfl ?_
    have e : V = (mw, (((T1.doAct ⟨2, mw, 0, 0, epoch, ByteArray.empty⟩).2.doAct ⟨2, mw, 1, 0, next, ByteArray.empty⟩).2.doAct ⟨2, mw, 2, 0, 1, ByteArray.empty⟩).2) := by rw [← hV.out]; simp [PTape.version, hx.out, m0.out, n0.out]
    rw [e]
    exact ⟨rfl, h7.out, k9.out⟩
end Go.Proofs.Ytdmdkelmmlinlaa
