/-
  DERIVED. GIVEN WITH THE SEED: THE PROGRAM's TIES (one call each: nine closed facts by the kernel) AND EACH ROW's TIE, after the 31st guide's Derived/Test/Toyas{Tie, Card}.lean. No idea stands in it: it is a product of the set-up. Laid BY PROGRAM, IN A SANDBOX (cutbox-door.mjs). By AI agents, Wed Nov 11 2026. No macro, syntax, notation, axiom, sorry.
-/
import Derived.Test.YtpmnppjiipbonaaDoorRows
import Derived.LaidByTextLater
import Derived.SevenTiedAt
import Derived.LaidSub
import Derived.LaidOnce
namespace Go.Proofs.YtpmnppjiipbonaaDoor
open Go
set_option maxRecDepth 100000
theorem seatTie1 : Tryd.prog.laidByTextLater [("unicode/utf8.acceptRanges", Rows.laid_unicode_utf8_acceptRanges), ("errors.errorType", Rows.laid_errors_errorType), ("philtre/api.ErrForm", Rows.laid_philtre_api_ErrForm), ("philtre/api.ErrShort", Rows.laid_philtre_api_ErrShort), ("philtre/api.ErrLong", Rows.laid_philtre_api_ErrLong), ("philtre/api.ErrRange", Rows.laid_philtre_api_ErrRange), ("philtre/api.ErrKind", Rows.laid_philtre_api_ErrKind), ("philtre/api.ErrTwice", Rows.laid_philtre_api_ErrTwice), ("philtre/api.ErrFull", Rows.laid_philtre_api_ErrFull), ("philtre/api.ErrBadOp", Rows.laid_philtre_api_ErrBadOp), ("philtre/api.ErrBadBatch", Rows.laid_philtre_api_ErrBadBatch), ("philtre/api.ErrStaleBatch", Rows.laid_philtre_api_ErrStaleBatch), ("philtre/api.ErrTooManyReaders", Rows.laid_philtre_api_ErrTooManyReaders), ("philtre/api.ErrNoWatcher", Rows.laid_philtre_api_ErrNoWatcher), ("philtre/api.ErrTooManyWatchers", Rows.laid_philtre_api_ErrTooManyWatchers), ("philtre/api.ErrOverflow", Rows.laid_philtre_api_ErrOverflow), ("philtre/api.ErrScript", Rows.laid_philtre_api_ErrScript), ("philtre/api.ErrNone", Rows.laid_philtre_api_ErrNone), ("philtre/api.ErrFreed", Rows.laid_philtre_api_ErrFreed), ("philtre/api.ErrBounds", Rows.laid_philtre_api_ErrBounds), ("philtre/api.ErrUnknown", Rows.laid_philtre_api_ErrUnknown)] [.data, .handle, .sentinel, .sentinel, .sentinel, .sentinel, .sentinel, .sentinel, .sentinel, .sentinel, .sentinel, .sentinel, .sentinel, .sentinel, .sentinel, .sentinel, .sentinel, .sentinel, .sentinel, .sentinel, .sentinel] true :=
  Program.laidByTextLater_by_one 387 8 33 (by kernel_rfl) (by kernel_rfl) (by kernel_rfl) (by kernel_rfl) (by kernel_rfl) (by kernel_rfl) (fun _ _ => by kernel_rfl)
theorem pin_laid_unicode_utf8_first : Tryd.pinned.checked.prog.pinnedFits "unicode/utf8.first" = true := by kernel_rfl
theorem noOwnUnsafe : Tryd.pinned.checked.prog.headLifts.contains "ownunsafe" = false := by kernel_rfl
theorem fits1 : Tryd.pinned.checked.prog.listedFits [("unicode/utf8.acceptRanges", Rows.laid_unicode_utf8_acceptRanges), ("errors.errorType", Rows.laid_errors_errorType), ("philtre/api.ErrForm", Rows.laid_philtre_api_ErrForm), ("philtre/api.ErrShort", Rows.laid_philtre_api_ErrShort), ("philtre/api.ErrLong", Rows.laid_philtre_api_ErrLong), ("philtre/api.ErrRange", Rows.laid_philtre_api_ErrRange), ("philtre/api.ErrKind", Rows.laid_philtre_api_ErrKind), ("philtre/api.ErrTwice", Rows.laid_philtre_api_ErrTwice), ("philtre/api.ErrFull", Rows.laid_philtre_api_ErrFull), ("philtre/api.ErrBadOp", Rows.laid_philtre_api_ErrBadOp), ("philtre/api.ErrBadBatch", Rows.laid_philtre_api_ErrBadBatch), ("philtre/api.ErrStaleBatch", Rows.laid_philtre_api_ErrStaleBatch), ("philtre/api.ErrTooManyReaders", Rows.laid_philtre_api_ErrTooManyReaders), ("philtre/api.ErrNoWatcher", Rows.laid_philtre_api_ErrNoWatcher), ("philtre/api.ErrTooManyWatchers", Rows.laid_philtre_api_ErrTooManyWatchers), ("philtre/api.ErrOverflow", Rows.laid_philtre_api_ErrOverflow), ("philtre/api.ErrScript", Rows.laid_philtre_api_ErrScript), ("philtre/api.ErrNone", Rows.laid_philtre_api_ErrNone), ("philtre/api.ErrFreed", Rows.laid_philtre_api_ErrFreed), ("philtre/api.ErrBounds", Rows.laid_philtre_api_ErrBounds), ("philtre/api.ErrUnknown", Rows.laid_philtre_api_ErrUnknown), ("unicode/utf8.first", Rows.laid_unicode_utf8_first)] = true := by
  unfold Program.listedFits
  rw [noOwnUnsafe]
  kernel_rfl
theorem tie : Tryd.prog.laidByTextLater [("unicode/utf8.acceptRanges", Rows.laid_unicode_utf8_acceptRanges), ("errors.errorType", Rows.laid_errors_errorType), ("philtre/api.ErrForm", Rows.laid_philtre_api_ErrForm), ("philtre/api.ErrShort", Rows.laid_philtre_api_ErrShort), ("philtre/api.ErrLong", Rows.laid_philtre_api_ErrLong), ("philtre/api.ErrRange", Rows.laid_philtre_api_ErrRange), ("philtre/api.ErrKind", Rows.laid_philtre_api_ErrKind), ("philtre/api.ErrTwice", Rows.laid_philtre_api_ErrTwice), ("philtre/api.ErrFull", Rows.laid_philtre_api_ErrFull), ("philtre/api.ErrBadOp", Rows.laid_philtre_api_ErrBadOp), ("philtre/api.ErrBadBatch", Rows.laid_philtre_api_ErrBadBatch), ("philtre/api.ErrStaleBatch", Rows.laid_philtre_api_ErrStaleBatch), ("philtre/api.ErrTooManyReaders", Rows.laid_philtre_api_ErrTooManyReaders), ("philtre/api.ErrNoWatcher", Rows.laid_philtre_api_ErrNoWatcher), ("philtre/api.ErrTooManyWatchers", Rows.laid_philtre_api_ErrTooManyWatchers), ("philtre/api.ErrOverflow", Rows.laid_philtre_api_ErrOverflow), ("philtre/api.ErrScript", Rows.laid_philtre_api_ErrScript), ("philtre/api.ErrNone", Rows.laid_philtre_api_ErrNone), ("philtre/api.ErrFreed", Rows.laid_philtre_api_ErrFreed), ("philtre/api.ErrBounds", Rows.laid_philtre_api_ErrBounds), ("philtre/api.ErrUnknown", Rows.laid_philtre_api_ErrUnknown)] [.data, .handle, .sentinel, .sentinel, .sentinel, .sentinel, .sentinel, .sentinel, .sentinel, .sentinel, .sentinel, .sentinel, .sentinel, .sentinel, .sentinel, .sentinel, .sentinel, .sentinel, .sentinel, .sentinel, .sentinel] true :=
  Program.laidByTextLater.sub seatTie1 ["unicode/utf8.acceptRanges", "errors.errorType", "philtre/api.ErrForm", "philtre/api.ErrShort", "philtre/api.ErrLong", "philtre/api.ErrRange", "philtre/api.ErrKind", "philtre/api.ErrTwice", "philtre/api.ErrFull", "philtre/api.ErrBadOp", "philtre/api.ErrBadBatch", "philtre/api.ErrStaleBatch", "philtre/api.ErrTooManyReaders", "philtre/api.ErrNoWatcher", "philtre/api.ErrTooManyWatchers", "philtre/api.ErrOverflow", "philtre/api.ErrScript", "philtre/api.ErrNone", "philtre/api.ErrFreed", "philtre/api.ErrBounds", "philtre/api.ErrUnknown"] (by kernel_rfl) (by kernel_rfl)
theorem quoteTells_row_tie : Rows.quoteTellsRow.laidByTextAt .later Tryd.pinned [.data, .handle, .sentinel, .sentinel, .sentinel, .sentinel, .sentinel, .sentinel, .sentinel, .sentinel, .sentinel, .sentinel, .sentinel, .sentinel, .sentinel, .sentinel, .sentinel, .sentinel, .sentinel, .sentinel, .sentinel, .pinned] true :=
  OpenClaim.laidByTextAt_pinned rfl rfl tie rfl rfl rfl rfl (fun y hy _e => by
    simp only [Rows.quoteTellsRow, List.zip_cons_cons, List.zip_nil_right, List.mem_cons, List.mem_nil_iff, or_false] at hy
    rcases hy with rfl | rfl | rfl | rfl | rfl | rfl | rfl | rfl | rfl | rfl | rfl | rfl | rfl | rfl | rfl | rfl | rfl | rfl | rfl | rfl | rfl | rfl
    · cases _e
    · cases _e
    · cases _e
    · cases _e
    · cases _e
    · cases _e
    · cases _e
    · cases _e
    · cases _e
    · cases _e
    · cases _e
    · cases _e
    · cases _e
    · cases _e
    · cases _e
    · cases _e
    · cases _e
    · cases _e
    · cases _e
    · cases _e
    · cases _e
    · exact ⟨pin_laid_unicode_utf8_first, by kernel_rfl⟩) fits1
theorem quoteBack_row_tie : Rows.quoteBackRow.laidByTextAt .later Tryd.pinned [.data, .handle, .sentinel, .sentinel, .sentinel, .sentinel, .sentinel, .sentinel, .sentinel, .sentinel, .sentinel, .sentinel, .sentinel, .sentinel, .sentinel, .sentinel, .sentinel, .sentinel, .sentinel, .sentinel, .sentinel, .pinned] true :=
  OpenClaim.laidByTextAt_pinned rfl rfl tie rfl rfl rfl rfl (fun y hy _e => by
    simp only [Rows.quoteBackRow, List.zip_cons_cons, List.zip_nil_right, List.mem_cons, List.mem_nil_iff, or_false] at hy
    rcases hy with rfl | rfl | rfl | rfl | rfl | rfl | rfl | rfl | rfl | rfl | rfl | rfl | rfl | rfl | rfl | rfl | rfl | rfl | rfl | rfl | rfl | rfl
    · cases _e
    · cases _e
    · cases _e
    · cases _e
    · cases _e
    · cases _e
    · cases _e
    · cases _e
    · cases _e
    · cases _e
    · cases _e
    · cases _e
    · cases _e
    · cases _e
    · cases _e
    · cases _e
    · cases _e
    · cases _e
    · cases _e
    · cases _e
    · cases _e
    · exact ⟨pin_laid_unicode_utf8_first, by kernel_rfl⟩) fits1
theorem quoteLines_row_tie : Rows.quoteLinesRow.laidByTextAt .later Tryd.pinned [.data, .handle, .sentinel, .sentinel, .sentinel, .sentinel, .sentinel, .sentinel, .sentinel, .sentinel, .sentinel, .sentinel, .sentinel, .sentinel, .sentinel, .sentinel, .sentinel, .sentinel, .sentinel, .sentinel, .sentinel, .pinned] true :=
  OpenClaim.laidByTextAt_pinned rfl rfl tie rfl rfl rfl rfl (fun y hy _e => by
    simp only [Rows.quoteLinesRow, List.zip_cons_cons, List.zip_nil_right, List.mem_cons, List.mem_nil_iff, or_false] at hy
    rcases hy with rfl | rfl | rfl | rfl | rfl | rfl | rfl | rfl | rfl | rfl | rfl | rfl | rfl | rfl | rfl | rfl | rfl | rfl | rfl | rfl | rfl | rfl
    · cases _e
    · cases _e
    · cases _e
    · cases _e
    · cases _e
    · cases _e
    · cases _e
    · cases _e
    · cases _e
    · cases _e
    · cases _e
    · cases _e
    · cases _e
    · cases _e
    · cases _e
    · cases _e
    · cases _e
    · cases _e
    · cases _e
    · cases _e
    · cases _e
    · exact ⟨pin_laid_unicode_utf8_first, by kernel_rfl⟩) fits1
theorem tie2 : Tryd.prog.laidByTextLater [("errors.errorType", Rows.laid_errors_errorType), ("philtre/api.ErrForm", Rows.laid_philtre_api_ErrForm), ("philtre/api.ErrShort", Rows.laid_philtre_api_ErrShort), ("philtre/api.ErrLong", Rows.laid_philtre_api_ErrLong), ("philtre/api.ErrRange", Rows.laid_philtre_api_ErrRange), ("philtre/api.ErrKind", Rows.laid_philtre_api_ErrKind), ("philtre/api.ErrTwice", Rows.laid_philtre_api_ErrTwice), ("philtre/api.ErrFull", Rows.laid_philtre_api_ErrFull), ("philtre/api.ErrBadOp", Rows.laid_philtre_api_ErrBadOp), ("philtre/api.ErrBadBatch", Rows.laid_philtre_api_ErrBadBatch), ("philtre/api.ErrStaleBatch", Rows.laid_philtre_api_ErrStaleBatch), ("philtre/api.ErrTooManyReaders", Rows.laid_philtre_api_ErrTooManyReaders), ("philtre/api.ErrNoWatcher", Rows.laid_philtre_api_ErrNoWatcher), ("philtre/api.ErrTooManyWatchers", Rows.laid_philtre_api_ErrTooManyWatchers), ("philtre/api.ErrOverflow", Rows.laid_philtre_api_ErrOverflow), ("philtre/api.ErrScript", Rows.laid_philtre_api_ErrScript), ("philtre/api.ErrNone", Rows.laid_philtre_api_ErrNone), ("philtre/api.ErrFreed", Rows.laid_philtre_api_ErrFreed), ("philtre/api.ErrBounds", Rows.laid_philtre_api_ErrBounds), ("philtre/api.ErrUnknown", Rows.laid_philtre_api_ErrUnknown)] [.handle, .sentinel, .sentinel, .sentinel, .sentinel, .sentinel, .sentinel, .sentinel, .sentinel, .sentinel, .sentinel, .sentinel, .sentinel, .sentinel, .sentinel, .sentinel, .sentinel, .sentinel, .sentinel, .sentinel] true :=
  Program.laidByTextLater.sub seatTie1 ["errors.errorType", "philtre/api.ErrForm", "philtre/api.ErrShort", "philtre/api.ErrLong", "philtre/api.ErrRange", "philtre/api.ErrKind", "philtre/api.ErrTwice", "philtre/api.ErrFull", "philtre/api.ErrBadOp", "philtre/api.ErrBadBatch", "philtre/api.ErrStaleBatch", "philtre/api.ErrTooManyReaders", "philtre/api.ErrNoWatcher", "philtre/api.ErrTooManyWatchers", "philtre/api.ErrOverflow", "philtre/api.ErrScript", "philtre/api.ErrNone", "philtre/api.ErrFreed", "philtre/api.ErrBounds", "philtre/api.ErrUnknown"] (by kernel_rfl) (by kernel_rfl)
theorem opcodeBack_row_tie : Rows.opcodeBackRow.laidByTextAt .later Tryd.pinned [.handle, .sentinel, .sentinel, .sentinel, .sentinel, .sentinel, .sentinel, .sentinel, .sentinel, .sentinel, .sentinel, .sentinel, .sentinel, .sentinel, .sentinel, .sentinel, .sentinel, .sentinel, .sentinel, .sentinel] true :=
  OpenClaim.laidByTextAt_later rfl rfl tie2 noOwnUnsafe
theorem opcodePrints_row_tie : Rows.opcodePrintsRow.laidByTextAt .later Tryd.pinned [.handle, .sentinel, .sentinel, .sentinel, .sentinel, .sentinel, .sentinel, .sentinel, .sentinel, .sentinel, .sentinel, .sentinel, .sentinel, .sentinel, .sentinel, .sentinel, .sentinel, .sentinel, .sentinel, .sentinel] true :=
  OpenClaim.laidByTextAt_later rfl rfl tie2 noOwnUnsafe
theorem opcodeParses_row_tie : Rows.opcodeParsesRow.laidByTextAt .later Tryd.pinned [.handle, .sentinel, .sentinel, .sentinel, .sentinel, .sentinel, .sentinel, .sentinel, .sentinel, .sentinel, .sentinel, .sentinel, .sentinel, .sentinel, .sentinel, .sentinel, .sentinel, .sentinel, .sentinel, .sentinel] true :=
  OpenClaim.laidByTextAt_later rfl rfl tie2 noOwnUnsafe
theorem quoteTellsUpto_row_tie : Rows.quoteTellsUptoRow.laidByTextAt .later Tryd.pinned [.data, .handle, .sentinel, .sentinel, .sentinel, .sentinel, .sentinel, .sentinel, .sentinel, .sentinel, .sentinel, .sentinel, .sentinel, .sentinel, .sentinel, .sentinel, .sentinel, .sentinel, .sentinel, .sentinel, .sentinel, .pinned] true :=
  OpenClaim.laidByTextAt_pinned rfl rfl tie rfl rfl rfl rfl (fun y hy _e => by
    simp only [Rows.quoteTellsUptoRow, List.zip_cons_cons, List.zip_nil_right, List.mem_cons, List.mem_nil_iff, or_false] at hy
    rcases hy with rfl | rfl | rfl | rfl | rfl | rfl | rfl | rfl | rfl | rfl | rfl | rfl | rfl | rfl | rfl | rfl | rfl | rfl | rfl | rfl | rfl | rfl
    · cases _e
    · cases _e
    · cases _e
    · cases _e
    · cases _e
    · cases _e
    · cases _e
    · cases _e
    · cases _e
    · cases _e
    · cases _e
    · cases _e
    · cases _e
    · cases _e
    · cases _e
    · cases _e
    · cases _e
    · cases _e
    · cases _e
    · cases _e
    · cases _e
    · exact ⟨pin_laid_unicode_utf8_first, by kernel_rfl⟩) fits1
theorem quoteBackUpto_row_tie : Rows.quoteBackUptoRow.laidByTextAt .later Tryd.pinned [.data, .handle, .sentinel, .sentinel, .sentinel, .sentinel, .sentinel, .sentinel, .sentinel, .sentinel, .sentinel, .sentinel, .sentinel, .sentinel, .sentinel, .sentinel, .sentinel, .sentinel, .sentinel, .sentinel, .sentinel, .pinned] true :=
  OpenClaim.laidByTextAt_pinned rfl rfl tie rfl rfl rfl rfl (fun y hy _e => by
    simp only [Rows.quoteBackUptoRow, List.zip_cons_cons, List.zip_nil_right, List.mem_cons, List.mem_nil_iff, or_false] at hy
    rcases hy with rfl | rfl | rfl | rfl | rfl | rfl | rfl | rfl | rfl | rfl | rfl | rfl | rfl | rfl | rfl | rfl | rfl | rfl | rfl | rfl | rfl | rfl
    · cases _e
    · cases _e
    · cases _e
    · cases _e
    · cases _e
    · cases _e
    · cases _e
    · cases _e
    · cases _e
    · cases _e
    · cases _e
    · cases _e
    · cases _e
    · cases _e
    · cases _e
    · cases _e
    · cases _e
    · cases _e
    · cases _e
    · cases _e
    · cases _e
    · exact ⟨pin_laid_unicode_utf8_first, by kernel_rfl⟩) fits1
theorem quoteLinesUpto_row_tie : Rows.quoteLinesUptoRow.laidByTextAt .later Tryd.pinned [.data, .handle, .sentinel, .sentinel, .sentinel, .sentinel, .sentinel, .sentinel, .sentinel, .sentinel, .sentinel, .sentinel, .sentinel, .sentinel, .sentinel, .sentinel, .sentinel, .sentinel, .sentinel, .sentinel, .sentinel, .pinned] true :=
  OpenClaim.laidByTextAt_pinned rfl rfl tie rfl rfl rfl rfl (fun y hy _e => by
    simp only [Rows.quoteLinesUptoRow, List.zip_cons_cons, List.zip_nil_right, List.mem_cons, List.mem_nil_iff, or_false] at hy
    rcases hy with rfl | rfl | rfl | rfl | rfl | rfl | rfl | rfl | rfl | rfl | rfl | rfl | rfl | rfl | rfl | rfl | rfl | rfl | rfl | rfl | rfl | rfl
    · cases _e
    · cases _e
    · cases _e
    · cases _e
    · cases _e
    · cases _e
    · cases _e
    · cases _e
    · cases _e
    · cases _e
    · cases _e
    · cases _e
    · cases _e
    · cases _e
    · cases _e
    · cases _e
    · cases _e
    · cases _e
    · cases _e
    · cases _e
    · cases _e
    · exact ⟨pin_laid_unicode_utf8_first, by kernel_rfl⟩) fits1
theorem opcodeBackUpto_row_tie : Rows.opcodeBackUptoRow.laidByTextAt .later Tryd.pinned [.handle, .sentinel, .sentinel, .sentinel, .sentinel, .sentinel, .sentinel, .sentinel, .sentinel, .sentinel, .sentinel, .sentinel, .sentinel, .sentinel, .sentinel, .sentinel, .sentinel, .sentinel, .sentinel, .sentinel] true :=
  OpenClaim.laidByTextAt_later rfl rfl tie2 noOwnUnsafe
theorem opcodePrintsUpto_row_tie : Rows.opcodePrintsUptoRow.laidByTextAt .later Tryd.pinned [.handle, .sentinel, .sentinel, .sentinel, .sentinel, .sentinel, .sentinel, .sentinel, .sentinel, .sentinel, .sentinel, .sentinel, .sentinel, .sentinel, .sentinel, .sentinel, .sentinel, .sentinel, .sentinel, .sentinel] true :=
  OpenClaim.laidByTextAt_later rfl rfl tie2 noOwnUnsafe
theorem opcodeParsesUpto_row_tie : Rows.opcodeParsesUptoRow.laidByTextAt .later Tryd.pinned [.handle, .sentinel, .sentinel, .sentinel, .sentinel, .sentinel, .sentinel, .sentinel, .sentinel, .sentinel, .sentinel, .sentinel, .sentinel, .sentinel, .sentinel, .sentinel, .sentinel, .sentinel, .sentinel, .sentinel] true :=
  OpenClaim.laidByTextAt_later rfl rfl tie2 noOwnUnsafe
end Go.Proofs.YtpmnppjiipbonaaDoor
