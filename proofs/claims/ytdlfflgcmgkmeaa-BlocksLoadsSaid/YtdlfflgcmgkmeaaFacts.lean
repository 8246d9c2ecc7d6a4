/- Proved: the facts of the given program as a whole that every row's closing asks, each in a declaration of its own (together they outgrow the memory of one). Conditions: none. -/
import Derived.Test.YtdlfflgcmgkmeaaRows
import Derived.ProofKit
namespace Go.Proofs.Ytdlfflgcmgkmeaa.Closing
open Go

theorem t1 : (laidOutB Try.prog) = true := by kernel_rfl
theorem t2 : (mapsRowed Try.prog) = true := by kernel_rfl
theorem t6 : ((Try.prog.stops == [])) = true := by kernel_rfl
theorem t8 : ((Try.prog.stopKnobs == [])) = true := by kernel_rfl
theorem t24 : (Try.prog.stopsHeard) = true := by kernel_rfl
theorem t25 : (Try.prog.mayEnter) = true := by kernel_rfl
theorem t26 : ((Rows.blocksWordsRow.lifted == Try.prog.liftsFinal)) = true := by kernel_rfl
theorem t27 : ((Try.prog.make == some Rows.blocksWordsRow.make)) = true := by kernel_rfl
end Go.Proofs.Ytdlfflgcmgkmeaa.Closing
